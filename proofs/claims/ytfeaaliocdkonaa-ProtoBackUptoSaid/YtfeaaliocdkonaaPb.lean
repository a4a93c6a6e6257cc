/-
  The sum of bytes: the plain side, and the two programs' walks.
-/
import Derived.Test.YtfeaaliocdkonaaPa
namespace Go.Proofs.Ytfeaaliocdkonaa.rr
open Go.Proofs.Ytfeaaliocdkonaa
set_option linter.unusedVariables false
set_option linter.unusedSimpArgs false
def poly : BitVec 32 := 2197175160#32
def step (x : BitVec 32) : BitVec 32 := (x >>> 1) ^^^ (if x.getLsbD 0 then poly else 0#32)
abbrev bw (x : BitVec 32) : Value := .int .u32 (x.toNat : Int)
theorem ofI (x : BitVec 32) : BitVec.ofInt 32 (x.toNat : Int) = x := by rw [BitVec.ofInt_natCast, BitVec.ofNat_toNat, BitVec.setWidth_eq]
theorem half (x : BitVec 32) : @HDiv.hDiv Int Int Int _ (x.toNat : Int) (2 : Int) = ((x >>> 1).toNat : Int) := by
  rw [BitVec.toNat_ushiftRight, Nat.shiftRight_eq_div_pow]; omega
theorem xor_half (x y : BitVec 32) (k : Int) (hk : BitVec.ofInt 32 k = y) : BitVec.ofInt 32 (@HDiv.hDiv Int Int Int _ (x.toNat : Int) (2 : Int)) ^^^ BitVec.ofInt 32 k = (x >>> 1) ^^^ y := by rw [half, ofI, hk]
theorem lsb0 (x : BitVec 32) : x.getLsbD 0 = decide (x.toNat % 2 = 1) := by
  rw [BitVec.getLsbD, Nat.testBit_zero]
theorem step_odd {x : BitVec 32} (h : x.toNat % 2 = 1) : step x = (x >>> 1) ^^^ poly := by unfold step; rw [lsb0, decide_eq_true h]; rfl
theorem step_even {x : BitVec 32} (h : ¬ x.toNat % 2 = 1) : step x = x >>> 1 := by unfold step; rw [lsb0, decide_eq_false h]; simp
theorem Step_ok {h : H} (x : BitVec 32) : Ok Try.prog 91 #[bw x] h fun v h' => v = bw (step x) ∧ h = h' := by
  refine c91_ok (args := [_]) (by simp) ?_
  have hx := x.isLt
  by_cases h1 : x.toNat % 2 = 1
  · simp (disch := omega) only [dm_t, wZ, ↓reduceIte, Nat.reduceEqDiff, Nat.reduceAdd, Nat.reduceSub, Nat.reduceMul, Nat.reduceLeDiff, Nat.reduceLT, Nat.reduceMod, Nat.reduceDiv, Int.reduceToNat, Nat.min_eq_left, IntKind.bits, Int.reducePow, Int.reduceLT, Int.reduceLE, Int.reduceEq, Int.reduceNe, Int.reduceAdd, Int.reduceSub, reduceCtorEq, eq_self, implies_true, exists_const, Option.isNone_some, Option.isNone_none, Option.isSome_some, Option.isSome_none, Option.getD_some]
    rw [step_odd h1]
    exact congrArg (fun b : BitVec 32 => Value.int .u32 (b.toNat : Int)) (xor_half x poly _ rfl)
  · simp (disch := omega) only [dm_t, wZ, ↓reduceIte, Nat.reduceEqDiff, Nat.reduceAdd, Nat.reduceSub, Nat.reduceMul, Nat.reduceLeDiff, Nat.reduceLT, Nat.reduceMod, Nat.reduceDiv, Int.reduceToNat, Nat.min_eq_left, IntKind.bits, Int.reducePow, Int.reduceLT, Int.reduceLE, Int.reduceEq, Int.reduceNe, Int.reduceAdd, Int.reduceSub, reduceCtorEq, eq_self, implies_true, exists_const, Option.isNone_some, Option.isNone_none, Option.isSome_some, Option.isSome_none, Option.getD_some]
    rw [step_even h1]
    exact congrArg (Value.int .u32) (half x)
def steps : Nat → BitVec 32 → BitVec 32
  | 0, x => x
  | n + 1, x => steps n (step x)
theorem steps_succ (n : Nat) : ∀ x, steps (n + 1) x = step (steps n x) := by
  induction n with
  | zero => intro x; rfl
  | succ n ih => intro x; rw [steps, ih (step x)]; rfl
theorem Eight_ok {h : H} (x : BitVec 32) : Ok Try.prog 90 #[bw x] h fun v h' => v = bw (steps 8 x) ∧ h = h' := by
  refine c90_ok (args := [_]) (by simp) ?_
  simp (disch := omega) only [dm_t, wZ, ↓reduceIte, Nat.reduceEqDiff, Nat.reduceAdd, Nat.reduceSub, Nat.reduceMul, Nat.reduceLeDiff, Nat.reduceLT, Nat.reduceMod, Nat.reduceDiv, Int.reduceToNat, Nat.min_eq_left, IntKind.bits, Int.reducePow, Int.reduceLT, Int.reduceLE, Int.reduceEq, Int.reduceNe, Int.reduceAdd, Int.reduceSub, reduceCtorEq, eq_self, implies_true, exists_const, Option.isNone_some, Option.isNone_none, Option.isSome_some, Option.isSome_none, Option.getD_some]
  refine vc_loop2 (fun vx vi h' => h' = h ∧ ∃ i : Nat, vi = .int .i64 (i : Int) ∧ i ≤ 8 ∧ vx = bw (steps i x)) (fun _ vi _ => 8 - m1 vi) ?_ ?_
  · simp (disch := omega) only [dm_t, wZ, ↓reduceIte, Nat.reduceEqDiff, Nat.reduceAdd, Nat.reduceSub, Nat.reduceMul, Nat.reduceLeDiff, Nat.reduceLT, Nat.reduceMod, Nat.reduceDiv, Int.reduceToNat, Nat.min_eq_left, IntKind.bits, Int.reducePow, Int.reduceLT, Int.reduceLE, Int.reduceEq, Int.reduceNe, Int.reduceAdd, Int.reduceSub, reduceCtorEq, eq_self, implies_true, exists_const, Option.isNone_some, Option.isNone_none, Option.isSome_some, Option.isSome_none, Option.getD_some]
    exact ⟨0, rfl, by omega, rfl⟩
  rintro _ _ g ⟨rfl, i, rfl, hi, rfl⟩
  by_cases hil : i < 8
  · simp (disch := omega) only [dm_t, wZ, ↓reduceIte, Nat.reduceEqDiff, Nat.reduceAdd, Nat.reduceSub, Nat.reduceMul, Nat.reduceLeDiff, Nat.reduceLT, Nat.reduceMod, Nat.reduceDiv, Int.reduceToNat, Nat.min_eq_left, IntKind.bits, Int.reducePow, Int.reduceLT, Int.reduceLE, Int.reduceEq, Int.reduceNe, Int.reduceAdd, Int.reduceSub, reduceCtorEq, eq_self, implies_true, exists_const, Option.isNone_some, Option.isNone_none, Option.isSome_some, Option.isSome_none, Option.getD_some]
    refine (Step_ok _).k ?_
    rintro _ _ ⟨rfl, rfl⟩
    simp (disch := omega) only [dm_t, wZ, ↓reduceIte, Nat.reduceEqDiff, Nat.reduceAdd, Nat.reduceSub, Nat.reduceMul, Nat.reduceLeDiff, Nat.reduceLT, Nat.reduceMod, Nat.reduceDiv, Int.reduceToNat, Nat.min_eq_left, IntKind.bits, Int.reducePow, Int.reduceLT, Int.reduceLE, Int.reduceEq, Int.reduceNe, Int.reduceAdd, Int.reduceSub, reduceCtorEq, eq_self, implies_true, exists_const, Option.isNone_some, Option.isNone_none, Option.isSome_some, Option.isSome_none, Option.getD_some]
    exact ⟨⟨i + 1, by simp, by omega, by rw [steps_succ]⟩, by simp [m1]; omega⟩
  · obtain rfl : i = 8 := by omega
    simp (disch := omega) only [dm_t, wZ, ↓reduceIte, Nat.reduceEqDiff, Nat.reduceAdd, Nat.reduceSub, Nat.reduceMul, Nat.reduceLeDiff, Nat.reduceLT, Nat.reduceMod, Nat.reduceDiv, Int.reduceToNat, Nat.min_eq_left, IntKind.bits, Int.reducePow, Int.reduceLT, Int.reduceLE, Int.reduceEq, Int.reduceNe, Int.reduceAdd, Int.reduceSub, reduceCtorEq, eq_self, implies_true, exists_const, Option.isNone_some, Option.isNone_none, Option.isSome_some, Option.isSome_none, Option.getD_some]
theorem turned_ok {h : H} (x : BitVec 32) : Ok Try.prog 89 #[bw x] h fun v h' => v = bw (~~~x) ∧ h = h' := by
  refine c89_ok (args := [_]) (by simp) ?_
  have hx := x.isLt
  simp (disch := omega) only [dm_t, wZ, ↓reduceIte, Nat.reduceEqDiff, Nat.reduceAdd, Nat.reduceSub, Nat.reduceMul, Nat.reduceLeDiff, Nat.reduceLT, Nat.reduceMod, Nat.reduceDiv, Int.reduceToNat, Nat.min_eq_left, IntKind.bits, Int.reducePow, Int.reduceLT, Int.reduceLE, Int.reduceEq, Int.reduceNe, Int.reduceAdd, Int.reduceSub, reduceCtorEq, eq_self, implies_true, exists_const, Option.isNone_some, Option.isNone_none, Option.isSome_some, Option.isSome_none, Option.getD_some]
  refine congrArg (Value.int .u32) ?_
  rw [BitVec.toNat_not]
  omega
/-- Bytes go into a number. -/
def into (x : BitVec 32) (b : UInt8) : BitVec 32 := steps 8 (x ^^^ BitVec.ofNat 32 b.toNat)
def intos (x : BitVec 32) (l : List UInt8) : BitVec 32 := l.foldl into x
def sumB (l : List UInt8) : BitVec 32 := ~~~(intos (~~~0#32) l)
theorem byte32 (b : UInt8) : BitVec.ofInt 32 (b.toNat : Int) = BitVec.ofNat 32 b.toNat := BitVec.ofInt_natCast _ _
theorem More_ok {S : Nat → Prop} {h : H} {v : Value} {l : List UInt8} (x : BitVec 32) (hb : By S h v l) (hl : l.length ≤ 4611686018427387904) : Ok Try.prog 86 #[bw x, v] h fun v h' => v = bw (~~~(intos (~~~x) l)) ∧ h = h' := by
  obtain ⟨sa, sc, rfl⟩ := hb.len
  refine c86_ok (args := [_, _]) (by simp) ?_
  simp (disch := omega) only [dm_t, wZ, ↓reduceIte, Nat.reduceEqDiff, Nat.reduceAdd, Nat.reduceSub, Nat.reduceMul, Nat.reduceLeDiff, Nat.reduceLT, Nat.reduceMod, Nat.reduceDiv, Int.reduceToNat, Nat.min_eq_left, IntKind.bits, Int.reducePow, Int.reduceLT, Int.reduceLE, Int.reduceEq, Int.reduceNe, Int.reduceAdd, Int.reduceSub, reduceCtorEq, eq_self, implies_true, exists_const, Option.isNone_some, Option.isNone_none, Option.isSome_some, Option.isSome_none, Option.getD_some]
  refine (turned_ok _).k ?_
  rintro _ _ ⟨rfl, rfl⟩
  simp (disch := omega) only [dm_t, wZ, ↓reduceIte, Nat.reduceEqDiff, Nat.reduceAdd, Nat.reduceSub, Nat.reduceMul, Nat.reduceLeDiff, Nat.reduceLT, Nat.reduceMod, Nat.reduceDiv, Int.reduceToNat, Nat.min_eq_left, IntKind.bits, Int.reducePow, Int.reduceLT, Int.reduceLE, Int.reduceEq, Int.reduceNe, Int.reduceAdd, Int.reduceSub, reduceCtorEq, eq_self, implies_true, exists_const, Option.isNone_some, Option.isNone_none, Option.isSome_some, Option.isSome_none, Option.getD_some]
  refine vc_loop2 (fun vx vi h' => h' = h ∧ ∃ i : Nat, vi = .int .i64 (i : Int) ∧ i ≤ l.length ∧ vx = bw (intos (~~~x) (l.take i))) (fun _ vi _ => l.length - m1 vi) ?_ ?_
  · simp (disch := omega) only [dm_t, wZ, ↓reduceIte, Nat.reduceEqDiff, Nat.reduceAdd, Nat.reduceSub, Nat.reduceMul, Nat.reduceLeDiff, Nat.reduceLT, Nat.reduceMod, Nat.reduceDiv, Int.reduceToNat, Nat.min_eq_left, IntKind.bits, Int.reducePow, Int.reduceLT, Int.reduceLE, Int.reduceEq, Int.reduceNe, Int.reduceAdd, Int.reduceSub, reduceCtorEq, eq_self, implies_true, exists_const, Option.isNone_some, Option.isNone_none, Option.isSome_some, Option.isSome_none, Option.getD_some]
    exact ⟨0, rfl, by omega, rfl⟩
  rintro _ _ g ⟨rfl, i, rfl, hi, rfl⟩
  by_cases hil : i < l.length
  · have hsplit : l.take (i + 1) = l.take i ++ [l[i]] := by simp
    obtain ⟨b, o, i1, t1⟩ := hb.load hil .i64
    have hb8 := l[i].toNat_lt
    simp (disch := omega) only [dm_t, wZ, ↓reduceIte, Nat.reduceEqDiff, Nat.reduceAdd, Nat.reduceSub, Nat.reduceMul, Nat.reduceLeDiff, Nat.reduceLT, Nat.reduceMod, Nat.reduceDiv, Int.reduceToNat, Nat.min_eq_left, IntKind.bits, Int.reducePow, Int.reduceLT, Int.reduceLE, Int.reduceEq, Int.reduceNe, Int.reduceAdd, Int.reduceSub, reduceCtorEq, eq_self, implies_true, exists_const, Option.isNone_some, Option.isNone_none, Option.isSome_some, Option.isSome_none, Option.getD_some, i1, t1]
    rw [ofI, byte32]
    refine (Eight_ok _).k ?_
    rintro _ _ ⟨rfl, rfl⟩
    simp (disch := omega) only [dm_t, wZ, ↓reduceIte, Nat.reduceEqDiff, Nat.reduceAdd, Nat.reduceSub, Nat.reduceMul, Nat.reduceLeDiff, Nat.reduceLT, Nat.reduceMod, Nat.reduceDiv, Int.reduceToNat, Nat.min_eq_left, IntKind.bits, Int.reducePow, Int.reduceLT, Int.reduceLE, Int.reduceEq, Int.reduceNe, Int.reduceAdd, Int.reduceSub, reduceCtorEq, eq_self, implies_true, exists_const, Option.isNone_some, Option.isNone_none, Option.isSome_some, Option.isSome_none, Option.getD_some]
    exact ⟨⟨i + 1, by simp, by omega, by rw [hsplit, intos, intos, List.foldl_append]; rfl⟩, by simp [m1]; omega⟩
  · obtain rfl : i = l.length := by omega
    rw [List.take_length]
    simp (disch := omega) only [dm_t, wZ, ↓reduceIte, Nat.reduceEqDiff, Nat.reduceAdd, Nat.reduceSub, Nat.reduceMul, Nat.reduceLeDiff, Nat.reduceLT, Nat.reduceMod, Nat.reduceDiv, Int.reduceToNat, Nat.min_eq_left, IntKind.bits, Int.reducePow, Int.reduceLT, Int.reduceLE, Int.reduceEq, Int.reduceNe, Int.reduceAdd, Int.reduceSub, reduceCtorEq, eq_self, implies_true, exists_const, Option.isNone_some, Option.isNone_none, Option.isSome_some, Option.isSome_none, Option.getD_some]
    refine (turned_ok _).k ?_
    rintro _ _ ⟨rfl, rfl⟩
    simp (disch := omega) only [dm_t, wZ, ↓reduceIte, Nat.reduceEqDiff, Nat.reduceAdd, Nat.reduceSub, Nat.reduceMul, Nat.reduceLeDiff, Nat.reduceLT, Nat.reduceMod, Nat.reduceDiv, Int.reduceToNat, Nat.min_eq_left, IntKind.bits, Int.reducePow, Int.reduceLT, Int.reduceLE, Int.reduceEq, Int.reduceNe, Int.reduceAdd, Int.reduceSub, reduceCtorEq, eq_self, implies_true, exists_const, Option.isNone_some, Option.isNone_none, Option.isSome_some, Option.isSome_none, Option.getD_some]
theorem RSum_ok {S : Nat → Prop} {h : H} {v : Value} {l : List UInt8} (hb : By S h v l) (hl : l.length ≤ 4611686018427387904) : Ok Try.prog 77 #[v] h fun v h' => v = bw (sumB l) ∧ h = h' := by
  refine c77_ok (args := [_]) (by simp) ?_
  simp (disch := omega) only [dm_t, wZ, ↓reduceIte, Nat.reduceEqDiff, Nat.reduceAdd, Nat.reduceSub, Nat.reduceMul, Nat.reduceLeDiff, Nat.reduceLT, Nat.reduceMod, Nat.reduceDiv, Int.reduceToNat, Nat.min_eq_left, IntKind.bits, Int.reducePow, Int.reduceLT, Int.reduceLE, Int.reduceEq, Int.reduceNe, Int.reduceAdd, Int.reduceSub, reduceCtorEq, eq_self, implies_true, exists_const, Option.isNone_some, Option.isNone_none, Option.isSome_some, Option.isSome_none, Option.getD_some]
  refine (More_ok 0#32 hb hl).k ?_
  rintro _ _ ⟨rfl, rfl⟩
  simp (disch := omega) only [dm_t, wZ, ↓reduceIte, Nat.reduceEqDiff, Nat.reduceAdd, Nat.reduceSub, Nat.reduceMul, Nat.reduceLeDiff, Nat.reduceLT, Nat.reduceMod, Nat.reduceDiv, Int.reduceToNat, Nat.min_eq_left, IntKind.bits, Int.reducePow, Int.reduceLT, Int.reduceLE, Int.reduceEq, Int.reduceNe, Int.reduceAdd, Int.reduceSub, reduceCtorEq, eq_self, implies_true, exists_const, Option.isNone_some, Option.isNone_none, Option.isSome_some, Option.isSome_none, Option.getD_some]
  rfl
/-! ### Four steps at a time -/
theorem step_xor (a b : BitVec 32) : step (a ^^^ b) = step a ^^^ step b := by
  unfold step
  rw [BitVec.getLsbD_xor]
  have h1 : (a ^^^ b) >>> 1 = a >>> 1 ^^^ b >>> 1 := BitVec.ushiftRight_xor_distrib a b 1
  rw [h1]
  generalize a >>> 1 = p
  generalize b >>> 1 = q
  generalize poly = r
  cases a.getLsbD 0 <;> cases b.getLsbD 0 <;>
    (apply BitVec.eq_of_getLsbD_eq
     intro i hi
     simp only [Bool.xor_false, Bool.xor_true, Bool.not_false, Bool.not_true, ↓reduceIte, Bool.false_eq_true, BitVec.getLsbD_xor, BitVec.getLsbD_zero]
     first | done | (cases p.getLsbD i <;> cases q.getLsbD i <;> cases r.getLsbD i <;> rfl))
theorem steps_xor (n : Nat) : ∀ a b : BitVec 32, steps n (a ^^^ b) = steps n a ^^^ steps n b := by
  induction n with
  | zero => intro a b; rfl
  | succ n ih => intro a b; rw [steps, steps, steps, step_xor, ih]
theorem step_shift {x : BitVec 32} (h : x.getLsbD 0 = false) : step x = x >>> 1 := by unfold step; rw [h]; simp
theorem low4 (x : BitVec 32) (i : Nat) (hi : i < 4) : (x &&& ~~~15#32).getLsbD i = false := by
  rw [BitVec.getLsbD_and, BitVec.getLsbD_not]
  have : i = 0 ∨ i = 1 ∨ i = 2 ∨ i = 3 := by omega
  rcases this with rfl | rfl | rfl | rfl <;> simp
theorem steps4_hi (x : BitVec 32) : steps 4 (x &&& ~~~15#32) = (x &&& ~~~15#32) >>> 4 := by
  generalize hy : x &&& ~~~15#32 = y
  have hb : ∀ i, i < 4 → y.getLsbD i = false := fun i hi => hy ▸ low4 x i hi
  show step (step (step (step y))) = _
  rw [step_shift (hb 0 (by omega)), step_shift (x := y >>> 1) (by simpa using hb 1 (by omega)), step_shift (x := y >>> 1 >>> 1) (by simpa using hb 2 (by omega)), step_shift (x := y >>> 1 >>> 1 >>> 1) (by simpa using hb 3 (by omega))]
  apply BitVec.eq_of_getLsbD_eq
  intro i hi
  simp [BitVec.getLsbD_ushiftRight]
theorem and_split (x : BitVec 32) : x = (x &&& 15#32) ^^^ (x &&& ~~~15#32) := by
  apply BitVec.eq_of_getLsbD_eq
  intro i hi
  simp only [BitVec.getLsbD_xor, BitVec.getLsbD_and, BitVec.getLsbD_not]
  cases x.getLsbD i <;> cases (15#32).getLsbD i <;> simp [hi]
theorem hi_shift (x : BitVec 32) : (x &&& ~~~15#32) >>> 4 = x >>> 4 := by
  apply BitVec.eq_of_getLsbD_eq
  intro i hi
  simp only [BitVec.getLsbD_ushiftRight, BitVec.getLsbD_and, BitVec.getLsbD_not]
  have : (15#32).getLsbD (4 + i) = false := by
    rw [BitVec.getLsbD_ofNat]
    have : Nat.testBit 15 (4 + i) = false := Nat.testBit_lt_two_pow (Nat.lt_of_lt_of_le (by decide : 15 < 2 ^ 4) (Nat.pow_le_pow_right (by omega) (by omega)))
    rw [this]; simp
  rw [this]
  by_cases h : 4 + i < 32
  · simp [h]
  · simp [h, BitVec.getLsbD_of_ge x (4 + i) (by omega)]
theorem steps4 (x : BitVec 32) : steps 4 x = steps 4 (x &&& 15#32) ^^^ (x >>> 4) := by
  conv => lhs; rw [and_split x]
  rw [steps_xor, steps4_hi, hi_shift]
theorem steps_add (m n : Nat) : ∀ x, steps (m + n) x = steps n (steps m x) := by
  induction m with
  | zero => intro x; simp [steps]
  | succ m ih => intro x; rw [Nat.add_right_comm, steps, ih]; rfl
/-! ### The program's walks -/
def tab (i : Nat) : List Value := (List.range i).map (fun j => bw (steps 4 (BitVec.ofNat 32 j))) ++ List.replicate (16 - i) (.int .u32 0)
theorem tab_len (i : Nat) (hi : i ≤ 16) : (tab i).length = 16 := by simp [tab]; omega
theorem tab_set (i : Nat) (hi : i < 16) : (tab i).set i (bw (steps 4 (BitVec.ofNat 32 i))) = tab (i + 1) := by
  unfold tab
  rw [List.set_append_right _ _ (by simp), show 16 - i = (16 - (i + 1)) + 1 by omega, List.replicate_succ]
  simp only [List.length_map, List.length_range, Nat.sub_self, List.set_cons_zero, List.range_succ, List.map_append, List.map_cons, List.map_nil, List.append_assoc, List.cons_append, List.nil_append]
theorem tab_get (j : Nat) (hj : j < 16) : (tab 16)[j]? = some (bw (steps 4 (BitVec.ofNat 32 j))) := by
  unfold tab
  rw [List.getElem?_append_left (by simpa using hj)]
  simp [hj]
theorem step_neg (x : BitVec 32) : (x >>> 1) ^^^ (poly &&& (0#32 - (x &&& 1#32))) = step x := by
  have h1 : x &&& 1#32 = if x.getLsbD 0 then 1#32 else 0#32 := by
    apply BitVec.eq_of_getLsbD_eq
    intro i hi
    rw [BitVec.getLsbD_and]
    by_cases h0 : i = 0
    · subst h0; cases x.getLsbD 0 <;> simp
    · have : (1#32).getLsbD i = false := by
        rw [BitVec.getLsbD_ofNat]
        have : Nat.testBit 1 i = false := Nat.testBit_lt_two_pow (Nat.lt_of_lt_of_le (by decide : 1 < 2 ^ 1) (Nat.pow_le_pow_right (by omega) (by omega)))
        rw [this]; simp
      rw [this]
      cases x.getLsbD 0 <;> simp [this]
  rw [h1, step]
  cases x.getLsbD 0 <;> rfl
theorem wrap32 (x : Int) : IntKind.u32.wrap x = x % 4294967296 := by
  unfold IntKind.wrap; simp [IntKind.bits, IntKind.signed]
theorem neg32 (y : BitVec 32) : BitVec.ofInt 32 (IntKind.u32.wrap (0 - (y.toNat : Int))) = 0#32 - y := by
  have hy := y.isLt
  rw [wrap32]
  apply BitVec.eq_of_toNat_eq
  rw [BitVec.toNat_ofInt, BitVec.toNat_sub]
  simp
  omega
theorem fours_step (x : BitVec 32) : BitVec.ofInt 32 (@HDiv.hDiv Int Int Int _ (x.toNat : Int) (2 : Int)) ^^^ BitVec.ofInt 32 ((BitVec.ofInt 32 2197175160 &&& BitVec.ofInt 32 (IntKind.u32.wrap (0 - ((BitVec.ofInt 32 (x.toNat : Int) &&& BitVec.ofInt 32 1).toNat : Int)))).toNat : Int) = step x := by
  rw [half, ofI, ofI, neg32, ofI]
  exact step_neg x
theorem fours_ok (h : H) : Ok Try.prog 88 #[] h fun v h' => v = .agg (tab 16).toArray ∧ Ext h h' := by
  refine c88_ok (args := []) (by simp) ?_
  simp (disch := omega) only [dm_t, wZ, ↓reduceIte, Nat.reduceEqDiff, Nat.reduceAdd, Nat.reduceSub, Nat.reduceMul, Nat.reduceLeDiff, Nat.reduceLT, Nat.reduceMod, Nat.reduceDiv, Int.reduceToNat, Nat.min_eq_left, IntKind.bits, Int.reducePow, Int.reduceLT, Int.reduceLE, Int.reduceEq, Int.reduceNe, Int.reduceAdd, Int.reduceSub, reduceCtorEq, eq_self, implies_true, exists_const, Option.isNone_some, Option.isNone_none, Option.isSome_some, Option.isSome_none, Option.getD_some]
  intro rb hrb lb hlb
  simp (disch := omega) only [dm_t, wZ, ↓reduceIte, Nat.reduceEqDiff, Nat.reduceAdd, Nat.reduceSub, Nat.reduceMul, Nat.reduceLeDiff, Nat.reduceLT, Nat.reduceMod, Nat.reduceDiv, Int.reduceToNat, Nat.min_eq_left, IntKind.bits, Int.reducePow, Int.reduceLT, Int.reduceLE, Int.reduceEq, Int.reduceNe, Int.reduceAdd, Int.reduceSub, reduceCtorEq, eq_self, implies_true, exists_const, Option.isNone_some, Option.isNone_none, Option.isSome_some, Option.isSome_none, Option.getD_some]
  generalize hG : hupd h rb _ = g1 at hlb ⊢
  obtain ⟨e1, qr⟩ := new_ext hG hrb
  clear hG
  generalize hG : hupd g1 lb _ = g2
  obtain ⟨e2, ql⟩ := new_ext hG hlb
  clear hG
  have E2 := e1.trans e2
  have hrl := ne_of qr hlb
  replace qr := e2.at qr
  refine vc_loop1 (fun vi h' => ∃ i : Nat, vi = .int .i64 (i : Int) ∧ i ≤ 16 ∧ h' lb = some (.cells (tab i).toArray 143) ∧ h' rb = some (.cells (tab 0).toArray 143) ∧ Ext h h') (fun vi _ => 16 - m1 vi) ?_ ?_
  · simp (disch := omega) only [dm_t, wZ, ↓reduceIte, Nat.reduceEqDiff, Nat.reduceAdd, Nat.reduceSub, Nat.reduceMul, Nat.reduceLeDiff, Nat.reduceLT, Nat.reduceMod, Nat.reduceDiv, Int.reduceToNat, Nat.min_eq_left, IntKind.bits, Int.reducePow, Int.reduceLT, Int.reduceLE, Int.reduceEq, Int.reduceNe, Int.reduceAdd, Int.reduceSub, reduceCtorEq, eq_self, implies_true, exists_const, Option.isNone_some, Option.isNone_none, Option.isSome_some, Option.isSome_none, Option.getD_some]
    exact ⟨0, rfl, by omega, ql, qr, E2⟩
  rintro _ g ⟨i, rfl, hi, hl, hr, e⟩
  by_cases hil : i < 16
  · simp (disch := omega) only [dm_t, wZ, ↓reduceIte, Nat.reduceEqDiff, Nat.reduceAdd, Nat.reduceSub, Nat.reduceMul, Nat.reduceLeDiff, Nat.reduceLT, Nat.reduceMod, Nat.reduceDiv, Int.reduceToNat, Nat.min_eq_left, IntKind.bits, Int.reducePow, Int.reduceLT, Int.reduceLE, Int.reduceEq, Int.reduceNe, Int.reduceAdd, Int.reduceSub, reduceCtorEq, eq_self, implies_true, exists_const, Option.isNone_some, Option.isNone_none, Option.isSome_some, Option.isSome_none, Option.getD_some]
    have hbi : Value.int .u32 (i : Int) = bw (steps 0 (BitVec.ofNat 32 i)) := by
      show _ = Value.int .u32 ((BitVec.ofNat 32 i).toNat : Int)
      rw [BitVec.toNat_ofNat, Nat.mod_eq_of_lt (by omega)]
    rw [hbi]
    refine vc_loop2 (fun vx vj h' => h' = g ∧ ∃ j : Nat, vj = .int .i64 (j : Int) ∧ j ≤ 4 ∧ vx = bw (steps j (BitVec.ofNat 32 i))) (fun _ vj _ => 4 - m1 vj) ?_ ?_
    · simp (disch := omega) only [dm_t, wZ, ↓reduceIte, Nat.reduceEqDiff, Nat.reduceAdd, Nat.reduceSub, Nat.reduceMul, Nat.reduceLeDiff, Nat.reduceLT, Nat.reduceMod, Nat.reduceDiv, Int.reduceToNat, Nat.min_eq_left, IntKind.bits, Int.reducePow, Int.reduceLT, Int.reduceLE, Int.reduceEq, Int.reduceNe, Int.reduceAdd, Int.reduceSub, reduceCtorEq, eq_self, implies_true, exists_const, Option.isNone_some, Option.isNone_none, Option.isSome_some, Option.isSome_none, Option.getD_some]
      exact ⟨0, rfl, by omega, rfl⟩
    rintro _ _ g' ⟨rfl, j, rfl, hj, rfl⟩
    by_cases hjl : j < 4
    · generalize hxe : steps j (BitVec.ofNat 32 i) = x
      have hx := x.isLt
      simp (disch := omega) only [dm_t, wZ, ↓reduceIte, Nat.reduceEqDiff, Nat.reduceAdd, Nat.reduceSub, Nat.reduceMul, Nat.reduceLeDiff, Nat.reduceLT, Nat.reduceMod, Nat.reduceDiv, Int.reduceToNat, Nat.min_eq_left, IntKind.bits, Int.reducePow, Int.reduceLT, Int.reduceLE, Int.reduceEq, Int.reduceNe, Int.reduceAdd, Int.reduceSub, reduceCtorEq, eq_self, implies_true, exists_const, Option.isNone_some, Option.isNone_none, Option.isSome_some, Option.isSome_none, Option.getD_some]
      refine ⟨⟨j + 1, by simp, by omega, ?_⟩, by simp [m1]; omega⟩
      rw [steps_succ, hxe]
      exact congrArg (fun b : BitVec 32 => Value.int .u32 (b.toNat : Int)) (fours_step x)
    · obtain rfl : j = 4 := by omega
      have hsz : i < (tab i).toArray.size := by simp [tab_len i hi]; omega
      simp (disch := omega) only [dm_t, wZ, ↓reduceIte, Nat.reduceEqDiff, Nat.reduceAdd, Nat.reduceSub, Nat.reduceMul, Nat.reduceLeDiff, Nat.reduceLT, Nat.reduceMod, Nat.reduceDiv, Int.reduceToNat, Nat.min_eq_left, IntKind.bits, Int.reducePow, Int.reduceLT, Int.reduceLE, Int.reduceEq, Int.reduceNe, Int.reduceAdd, Int.reduceSub, reduceCtorEq, eq_self, implies_true, exists_const, Option.isNone_some, Option.isNone_none, Option.isSome_some, Option.isSome_none, Option.getD_some, storeH_0 hl, hsz]
      have hset : (tab i).toArray.setIfInBounds i (bw (steps 4 (BitVec.ofNat 32 i))) = (tab (i + 1)).toArray := by
        rw [List.setIfInBounds_toArray, tab_set i hil]
      refine ⟨by rw [tab_len i hi]; omega, ⟨i + 1, by simp, by omega, by rw [hset, hupd_same], by rw [hupd_ne _ _ hrl]; exact hr, ?_⟩, by simp [m1]; omega⟩
      exact Ext.step' e (Fr.upd (S := fun y => y = lb) rfl _) fun y hy => by rw [hy]; exact e1.bk hlb
  · obtain rfl : i = 16 := by omega
    simp (disch := omega) only [dm_t, wZ, ↓reduceIte, Nat.reduceEqDiff, Nat.reduceAdd, Nat.reduceSub, Nat.reduceMul, Nat.reduceLeDiff, Nat.reduceLT, Nat.reduceMod, Nat.reduceDiv, Int.reduceToNat, Nat.min_eq_left, IntKind.bits, Int.reducePow, Int.reduceLT, Int.reduceLE, Int.reduceEq, Int.reduceNe, Int.reduceAdd, Int.reduceSub, reduceCtorEq, eq_self, implies_true, exists_const, Option.isNone_some, Option.isNone_none, Option.isSome_some, Option.isSome_none, Option.getD_some, cellsAt_all hl 16 (tab_len 16 (by omega))]
    refine ⟨tab_len 16 (by omega), storeH_all hr (by rw [tab_len 16 (by omega)]; simp [tab_len 0 (by omega)]) (by rfl) ?_⟩
    simp (disch := omega) only [dm_t, wZ, ↓reduceIte, Nat.reduceEqDiff, Nat.reduceAdd, Nat.reduceSub, Nat.reduceMul, Nat.reduceLeDiff, Nat.reduceLT, Nat.reduceMod, Nat.reduceDiv, Int.reduceToNat, Nat.min_eq_left, IntKind.bits, Int.reducePow, Int.reduceLT, Int.reduceLE, Int.reduceEq, Int.reduceNe, Int.reduceAdd, Int.reduceSub, reduceCtorEq, eq_self, implies_true, exists_const, Option.isNone_some, Option.isNone_none, Option.isSome_some, Option.isSome_none, Option.getD_some, cellsAt_all (hupd_same _ _ _) 16 (tab_len 16 (by omega))]
    exact Ext.step' e (Fr.upd (S := fun y => y = rb) rfl _) fun y hy => by rw [hy]; exact hrb
theorem into_step (x : BitVec 32) (c : UInt8) : steps 4 (steps 4 (x ^^^ BitVec.ofNat 32 c.toNat)) = into x c := by
  rw [into, show (8 : Nat) = 4 + 4 from rfl, steps_add]
theorem into_ok {S : Nat → Prop} {h : H} {v : Value} {l : List UInt8} (x : BitVec 32) (hb : By S h v l) (hl : l.length ≤ 4611686018427387904) : Ok Try.prog 79 #[bw x, v] h fun v h' => v = bw (intos x l) ∧ Ext h h' := by
  obtain ⟨sa, sc, rfl⟩ := hb.len
  refine c79_ok (args := [_, _]) (by simp) ?_
  simp (disch := omega) only [dm_t, wZ, ↓reduceIte, Nat.reduceEqDiff, Nat.reduceAdd, Nat.reduceSub, Nat.reduceMul, Nat.reduceLeDiff, Nat.reduceLT, Nat.reduceMod, Nat.reduceDiv, Int.reduceToNat, Nat.min_eq_left, IntKind.bits, Int.reducePow, Int.reduceLT, Int.reduceLE, Int.reduceEq, Int.reduceNe, Int.reduceAdd, Int.reduceSub, reduceCtorEq, eq_self, implies_true, exists_const, Option.isNone_some, Option.isNone_none, Option.isSome_some, Option.isSome_none, Option.getD_some]
  refine (fours_ok _).k ?_
  rintro _ g1 ⟨rfl, e1⟩
  simp (disch := omega) only [dm_t, wZ, ↓reduceIte, Nat.reduceEqDiff, Nat.reduceAdd, Nat.reduceSub, Nat.reduceMul, Nat.reduceLeDiff, Nat.reduceLT, Nat.reduceMod, Nat.reduceDiv, Int.reduceToNat, Nat.min_eq_left, IntKind.bits, Int.reducePow, Int.reduceLT, Int.reduceLE, Int.reduceEq, Int.reduceNe, Int.reduceAdd, Int.reduceSub, reduceCtorEq, eq_self, implies_true, exists_const, Option.isNone_some, Option.isNone_none, Option.isSome_some, Option.isSome_none, Option.getD_some]
  intro lb hlb
  simp (disch := omega) only [dm_t, wZ, ↓reduceIte, Nat.reduceEqDiff, Nat.reduceAdd, Nat.reduceSub, Nat.reduceMul, Nat.reduceLeDiff, Nat.reduceLT, Nat.reduceMod, Nat.reduceDiv, Int.reduceToNat, Nat.min_eq_left, IntKind.bits, Int.reducePow, Int.reduceLT, Int.reduceLE, Int.reduceEq, Int.reduceNe, Int.reduceAdd, Int.reduceSub, reduceCtorEq, eq_self, implies_true, exists_const, Option.isNone_some, Option.isNone_none, Option.isSome_some, Option.isSome_none, Option.getD_some]
  refine ⟨tab_len 16 (by omega), storeH_all (hupd_same _ _ _) (tab_len 16 (by omega)) (by rfl) ?_⟩
  rw [hupd_hupd]
  generalize hG : hupd g1 lb _ = g2
  obtain ⟨e2, ql⟩ := new_ext hG hlb
  clear hG
  have E2 := e1.trans e2
  simp (disch := omega) only [dm_t, wZ, ↓reduceIte, Nat.reduceEqDiff, Nat.reduceAdd, Nat.reduceSub, Nat.reduceMul, Nat.reduceLeDiff, Nat.reduceLT, Nat.reduceMod, Nat.reduceDiv, Int.reduceToNat, Nat.min_eq_left, IntKind.bits, Int.reducePow, Int.reduceLT, Int.reduceLE, Int.reduceEq, Int.reduceNe, Int.reduceAdd, Int.reduceSub, reduceCtorEq, eq_self, implies_true, exists_const, Option.isNone_some, Option.isNone_none, Option.isSome_some, Option.isSome_none, Option.getD_some]
  refine vc_loop2 (fun vx vi h' => h' = g2 ∧ ∃ i : Nat, vi = .int .i64 (i : Int) ∧ i ≤ l.length ∧ vx = bw (intos x (l.take i))) (fun _ vi _ => l.length - m1 vi) ?_ ?_
  · simp (disch := omega) only [dm_t, wZ, ↓reduceIte, Nat.reduceEqDiff, Nat.reduceAdd, Nat.reduceSub, Nat.reduceMul, Nat.reduceLeDiff, Nat.reduceLT, Nat.reduceMod, Nat.reduceDiv, Int.reduceToNat, Nat.min_eq_left, IntKind.bits, Int.reducePow, Int.reduceLT, Int.reduceLE, Int.reduceEq, Int.reduceNe, Int.reduceAdd, Int.reduceSub, reduceCtorEq, eq_self, implies_true, exists_const, Option.isNone_some, Option.isNone_none, Option.isSome_some, Option.isSome_none, Option.getD_some]
    exact ⟨0, rfl, by omega, rfl⟩
  rintro _ _ g ⟨rfl, i, rfl, hi, rfl⟩
  by_cases hil : i < l.length
  · have hsplit : l.take (i + 1) = l.take i ++ [l[i]] := by simp
    obtain ⟨b, o, i1, t1⟩ := By.load (SlK.ext hb E2) hil .i64
    have hb8 := l[i].toNat_lt
    have tg : ∀ y : BitVec 32, ∃ m : Nat, m < 16 ∧ (BitVec.ofInt 32 (y.toNat : Int) &&& BitVec.ofInt 32 15).toNat = m ∧ cellAt g ⟨lb, m, none⟩ = some (bw (steps 4 (y &&& 15#32))) := by
      intro y
      have hm : (y &&& 15#32).toNat < 16 := by
        rw [BitVec.toNat_and]
        exact Nat.lt_of_le_of_lt Nat.and_le_right (by decide)
      refine ⟨(y &&& 15#32).toNat, hm, by rw [ofI]; rfl, ?_⟩
      rw [cellAt_of ql]
      simp only [List.getElem?_toArray]
      rw [tab_get _ hm, BitVec.ofNat_toNat, BitVec.setWidth_eq]
    have shr4 : ∀ y : BitVec 32, @HDiv.hDiv Int Int Int _ (y.toNat : Int) (16 : Int) = ((y >>> 4).toNat : Int) := by
      intro y
      rw [BitVec.toNat_ushiftRight, Nat.shiftRight_eq_div_pow]; omega
    generalize hQ0 : lq2 _ _ _ _ _ _ _ _ = Q0
    have s7 : ∀ y : BitVec 32, steps 4 y = intos x (l.take (i + 1)) → vc Try.prog c79_s7 (blockQ 1 (seqQ Try.prog [0, 5, 9, 10, 11] c79_s8 Q0)) [(0, bw y), (5, .pointer (some ⟨lb, 0, none⟩)), (9, .slice sa l.length sc), (10, .int .i64 (l.length : Int)), (11, .int .i64 (i : Int))] g := by
      intro y hy
      obtain ⟨m, hm, h1, h2⟩ := tg y
      have h1' : (BitVec.ofInt (IntKind.bits .u32) (y.toNat : Int) &&& BitVec.ofInt (IntKind.bits .u32) 15).toNat = m := h1
      simp only [IntKind.bits] at h1'
      have hyl := y.isLt
      subst hQ0
      simp (disch := omega) only [dm_t, wZ, ↓reduceIte, Nat.reduceEqDiff, Nat.reduceAdd, Nat.reduceSub, Nat.reduceMul, Nat.reduceLeDiff, Nat.reduceLT, Nat.reduceMod, Nat.reduceDiv, Int.reduceToNat, Nat.min_eq_left, IntKind.bits, Int.reducePow, Int.reduceLT, Int.reduceLE, Int.reduceEq, Int.reduceNe, Int.reduceAdd, Int.reduceSub, reduceCtorEq, eq_self, implies_true, exists_const, Option.isNone_some, Option.isNone_none, Option.isSome_some, Option.isSome_none, Option.getD_some, h1', h2]
      refine ⟨⟨i + 1, by simp, by omega, ?_⟩, by simp [m1]; omega⟩
      rw [← hy, steps4 y]
      refine congrArg (fun b : BitVec 32 => Value.int .u32 (b.toNat : Int)) ?_
      show BitVec.ofInt 32 ((steps 4 (y &&& 15#32)).toNat : Int) ^^^ BitVec.ofInt 32 (@HDiv.hDiv Int Int Int _ (y.toNat : Int) (16 : Int)) = _
      rw [shr4, ofI, ofI]
    have s6 : ∀ y : BitVec 32, steps 4 (steps 4 y) = intos x (l.take (i + 1)) → vc Try.prog c79_s6 (blockQ 1 (seqQ Try.prog [0, 5, 9, 10, 11] c79_s8 Q0)) [(0, bw y), (5, .pointer (some ⟨lb, 0, none⟩)), (9, .slice sa l.length sc), (10, .int .i64 (l.length : Int)), (11, .int .i64 (i : Int))] g := by
      intro y hy
      obtain ⟨m, hm, h1, h2⟩ := tg y
      have h1' : (BitVec.ofInt (IntKind.bits .u32) (y.toNat : Int) &&& BitVec.ofInt (IntKind.bits .u32) 15).toNat = m := h1
      simp only [IntKind.bits] at h1'
      have hyl := y.isLt
      unfold c79_s6
      rw [vc_seq, vc_ops]
      simp (disch := omega) only [dm_t, wV, wB, wL, wW, wU, Int.fdiv_eq_ediv_of_nonneg, Int.tdiv_eq_ediv_of_nonneg, Int.tmod_eq_emod_of_nonneg, chk_pos, decT, decF, br_pos, br_neg, wX, ↓reduceIte, Nat.reduceEqDiff, Nat.reduceAdd, Nat.reduceSub, Nat.reduceMul, Nat.reduceLeDiff, Nat.reduceLT, Nat.reduceMod, Nat.reduceDiv, Int.reduceToNat, Nat.min_eq_left, IntKind.bits, Int.reducePow, Int.reduceLT, Int.reduceLE, Int.reduceEq, Int.reduceNe, Int.reduceAdd, Int.reduceSub, and_self, reduceCtorEq, decide_eq_true_eq, decide_eq_false_iff_not, eq_self, implies_true, exists_const, Option.isNone_some, Option.isNone_none, Option.isSome_some, Option.isSome_none, Option.getD_some, h1', h2]
      refine s7 (BitVec.ofInt 32 ((steps 4 (y &&& 15#32)).toNat : Int) ^^^ BitVec.ofInt 32 (@HDiv.hDiv Int Int Int _ (y.toNat : Int) (16 : Int))) ?_
      rw [shr4, ofI, ofI, ← steps4, hy]
    simp (disch := omega) only [dm_t, wZ, ↓reduceIte, Nat.reduceEqDiff, Nat.reduceAdd, Nat.reduceSub, Nat.reduceMul, Nat.reduceLeDiff, Nat.reduceLT, Nat.reduceMod, Nat.reduceDiv, Int.reduceToNat, Nat.min_eq_left, IntKind.bits, Int.reducePow, Int.reduceLT, Int.reduceLE, Int.reduceEq, Int.reduceNe, Int.reduceAdd, Int.reduceSub, reduceCtorEq, eq_self, implies_true, exists_const, Option.isNone_some, Option.isNone_none, Option.isSome_some, Option.isSome_none, Option.getD_some]
    simp (disch := omega) only [dm_t, wV, wB, wL, wW, wU, Int.fdiv_eq_ediv_of_nonneg, Int.tdiv_eq_ediv_of_nonneg, Int.tmod_eq_emod_of_nonneg, chk_pos, decT, decF, br_pos, br_neg, wX, ↓reduceIte, Nat.reduceEqDiff, Nat.reduceAdd, Nat.reduceSub, Nat.reduceMul, Nat.reduceLeDiff, Nat.reduceLT, Nat.reduceMod, Nat.reduceDiv, Int.reduceToNat, Nat.min_eq_left, IntKind.bits, Int.reducePow, Int.reduceLT, Int.reduceLE, Int.reduceEq, Int.reduceNe, Int.reduceAdd, Int.reduceSub, and_self, reduceCtorEq, decide_eq_true_eq, decide_eq_false_iff_not, eq_self, implies_true, exists_const, Option.isNone_some, Option.isNone_none, Option.isSome_some, Option.isSome_none, Option.getD_some, i1, t1]
    unfold c79_s5
    rw [vc_seq, vc_ops]
    simp (disch := omega) only [dm_t, wV, wB, wL, wW, wU, Int.fdiv_eq_ediv_of_nonneg, Int.tdiv_eq_ediv_of_nonneg, Int.tmod_eq_emod_of_nonneg, chk_pos, decT, decF, br_pos, br_neg, wX, ↓reduceIte, Nat.reduceEqDiff, Nat.reduceAdd, Nat.reduceSub, Nat.reduceMul, Nat.reduceLeDiff, Nat.reduceLT, Nat.reduceMod, Nat.reduceDiv, Int.reduceToNat, Nat.min_eq_left, IntKind.bits, Int.reducePow, Int.reduceLT, Int.reduceLE, Int.reduceEq, Int.reduceNe, Int.reduceAdd, Int.reduceSub, and_self, reduceCtorEq, decide_eq_true_eq, decide_eq_false_iff_not, eq_self, implies_true, exists_const, Option.isNone_some, Option.isNone_none, Option.isSome_some, Option.isSome_none, Option.getD_some]
    refine s6 (BitVec.ofInt 32 ((intos x (l.take i)).toNat : Int) ^^^ BitVec.ofInt 32 (l[i].toNat : Int)) ?_
    rw [ofI, byte32, into_step, hsplit, intos, intos, List.foldl_append]
    rfl
  · obtain rfl : i = l.length := by omega
    rw [List.take_length]
    simp (disch := omega) only [dm_t, wZ, ↓reduceIte, Nat.reduceEqDiff, Nat.reduceAdd, Nat.reduceSub, Nat.reduceMul, Nat.reduceLeDiff, Nat.reduceLT, Nat.reduceMod, Nat.reduceDiv, Int.reduceToNat, Nat.min_eq_left, IntKind.bits, Int.reducePow, Int.reduceLT, Int.reduceLE, Int.reduceEq, Int.reduceNe, Int.reduceAdd, Int.reduceSub, reduceCtorEq, eq_self, implies_true, exists_const, Option.isNone_some, Option.isNone_none, Option.isSome_some, Option.isSome_none, Option.getD_some]
    exact E2
theorem not32 (x : BitVec 32) : unV .xor (bw x) = some (bw (~~~x)) := by
  have hx := x.isLt
  show some (Value.int .u32 (IntKind.u32.wrap ((BitVec.ofInt 32 4294967295 ^^^ BitVec.ofInt 32 (x.toNat : Int)).toNat : Int))) = _
  have : BitVec.ofInt 32 4294967295 ^^^ BitVec.ofInt 32 (x.toNat : Int) = ~~~x := by
    rw [ofI, BitVec.not_def]
    rfl
  rw [this, wrap32]
  have h2 := (~~~x).isLt
  congr 2
  omega
theorem Sum_ok {S T : Nat → Prop} {h : H} {v w : Value} {l : List UInt8} (hv : S1 T h v [w]) (hb : By S h w l) (hl : l.length ≤ 4611686018427387904) : Ok Try.prog 55 #[v] h fun v h' => v = bw (sumB l) ∧ Ext h h' := by
  obtain ⟨sa, sc, rfl⟩ := hv.len
  refine c55_ok (args := [_]) (by simp) ?_
  simp (disch := omega) only [dm_t, wZ, ↓reduceIte, Nat.reduceEqDiff, Nat.reduceAdd, Nat.reduceSub, Nat.reduceMul, Nat.reduceLeDiff, Nat.reduceLT, Nat.reduceMod, Nat.reduceDiv, Int.reduceToNat, Nat.min_eq_left, IntKind.bits, Int.reducePow, Int.reduceLT, Int.reduceLE, Int.reduceEq, Int.reduceNe, Int.reduceAdd, Int.reduceSub, reduceCtorEq, eq_self, implies_true, exists_const, Option.isNone_some, Option.isNone_none, Option.isSome_some, Option.isSome_none, Option.getD_some]
  refine vc_loop2 (fun vx vi h' => (vi = .int .i64 0 ∧ vx = bw (~~~0#32) ∧ Ext h h') ∨ (vi = .int .i64 1 ∧ vx = bw (intos (~~~0#32) l) ∧ Ext h h')) (fun _ vi _ => 1 - m1 vi) ?_ ?_
  · simp (disch := omega) only [dm_t, wZ, ↓reduceIte, Nat.reduceEqDiff, Nat.reduceAdd, Nat.reduceSub, Nat.reduceMul, Nat.reduceLeDiff, Nat.reduceLT, Nat.reduceMod, Nat.reduceDiv, Int.reduceToNat, Nat.min_eq_left, IntKind.bits, Int.reducePow, Int.reduceLT, Int.reduceLE, Int.reduceEq, Int.reduceNe, Int.reduceAdd, Int.reduceSub, reduceCtorEq, eq_self, implies_true, exists_const, Option.isNone_some, Option.isNone_none, Option.isSome_some, Option.isSome_none, Option.getD_some]
    exact .inl ⟨rfl, Ext.refl h⟩
  rintro _ _ g (⟨rfl, rfl, e⟩ | ⟨rfl, rfl, e⟩)
  · obtain ⟨b, o, i1, t1⟩ := S1.load (SlK.ext hv e) (i := 0) (by simp) .i64
    obtain ⟨wa, wc, rfl⟩ := hb.len
    have i1' : idxV1 1 (.slice sa 1 sc) (.int .i64 0) = some (.pointer (some ⟨b, o, none⟩)) := i1
    have t1' : cellAt g ⟨b, o, none⟩ = some (.slice wa l.length wc) := t1
    simp (disch := omega) only [dm_t, wZ, ↓reduceIte, Nat.reduceEqDiff, Nat.reduceAdd, Nat.reduceSub, Nat.reduceMul, Nat.reduceLeDiff, Nat.reduceLT, Nat.reduceMod, Nat.reduceDiv, Int.reduceToNat, Nat.min_eq_left, IntKind.bits, Int.reducePow, Int.reduceLT, Int.reduceLE, Int.reduceEq, Int.reduceNe, Int.reduceAdd, Int.reduceSub, reduceCtorEq, eq_self, implies_true, exists_const, Option.isNone_some, Option.isNone_none, Option.isSome_some, Option.isSome_none, Option.getD_some, i1', t1']
    refine (into_ok _ (SlK.ext hb e) hl).k ?_
    rintro _ g2 ⟨rfl, e2⟩
    simp (disch := omega) only [dm_t, wZ, ↓reduceIte, Nat.reduceEqDiff, Nat.reduceAdd, Nat.reduceSub, Nat.reduceMul, Nat.reduceLeDiff, Nat.reduceLT, Nat.reduceMod, Nat.reduceDiv, Int.reduceToNat, Nat.min_eq_left, IntKind.bits, Int.reducePow, Int.reduceLT, Int.reduceLE, Int.reduceEq, Int.reduceNe, Int.reduceAdd, Int.reduceSub, reduceCtorEq, eq_self, implies_true, exists_const, Option.isNone_some, Option.isNone_none, Option.isSome_some, Option.isSome_none, Option.getD_some]
    exact ⟨.inr (e.trans e2), by simp [m1]⟩
  · simp (disch := omega) only [dm_t, wZ, ↓reduceIte, Nat.reduceEqDiff, Nat.reduceAdd, Nat.reduceSub, Nat.reduceMul, Nat.reduceLeDiff, Nat.reduceLT, Nat.reduceMod, Nat.reduceDiv, Int.reduceToNat, Nat.min_eq_left, IntKind.bits, Int.reducePow, Int.reduceLT, Int.reduceLE, Int.reduceEq, Int.reduceNe, Int.reduceAdd, Int.reduceSub, reduceCtorEq, eq_self, implies_true, exists_const, Option.isNone_some, Option.isNone_none, Option.isSome_some, Option.isSome_none, Option.getD_some]
    simp (disch := omega) only [dm_t, wZ, ↓reduceIte, Nat.reduceEqDiff, Nat.reduceAdd, Nat.reduceSub, Nat.reduceMul, Nat.reduceLeDiff, Nat.reduceLT, Nat.reduceMod, Nat.reduceDiv, Int.reduceToNat, Nat.min_eq_left, IntKind.bits, Int.reducePow, Int.reduceLT, Int.reduceLE, Int.reduceEq, Int.reduceNe, Int.reduceAdd, Int.reduceSub, reduceCtorEq, eq_self, implies_true, exists_const, Option.isNone_some, Option.isNone_none, Option.isSome_some, Option.isSome_none, Option.getD_some, not32]
    exact ⟨rfl, e⟩
end Go.Proofs.Ytfeaaliocdkonaa.rr
