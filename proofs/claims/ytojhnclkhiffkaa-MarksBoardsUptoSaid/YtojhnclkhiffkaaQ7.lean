/-
  Lowered functions, written by a program (wip/tools/low.py) and checked by the kernel.
-/
import Derived.Test.YtojhnclkhiffkaaQ5
import Derived.Test.YtojhnclkhiffkaaChecked
import Derived.KernelRfl
import Derived.Test.YtojhnclkhiffkaaQ6
import Derived.Conc.CrowdRun
/-
  Lowered functions, written by a program (wip/tools/low.py) and checked by the kernel.
-/
namespace Go.Proofs.Ytojhnclkhiffkaa
set_option maxRecDepth 100000
@[reducible] def c79_s1 : LC := (.ops [⟨(some 2), none, (.mv (.const (.int .i64 32)))⟩])
@[reducible] def c79_t0 : LC := (.seq (.ops [⟨(some 5), none, (.mv (.tmp 0))⟩, ⟨(some 6), none, (.bin .shr .other (.tmp 5) (.const (.int .u64 32)))⟩, ⟨(some 0), none, (.mv (.tmp 6))⟩]) [0] c79_s1)
@[reducible] def c79_s3 : LC := (.ops [⟨(some 11), none, (.mv (.tmp 2))⟩, ⟨(some 12), none, (.bin .add .other (.tmp 11) (.const (.int .i64 16)))⟩, ⟨(some 2), none, (.mv (.tmp 12))⟩])
@[reducible] def c79_t1 : LC := (.seq (.ops [⟨(some 9), none, (.mv (.tmp 0))⟩, ⟨(some 10), none, (.bin .shr .other (.tmp 9) (.const (.int .u64 16)))⟩, ⟨(some 0), none, (.mv (.tmp 10))⟩]) [0, 2] c79_s3)
@[reducible] def c79_s5 : LC := (.ops [⟨(some 17), none, (.mv (.tmp 2))⟩, ⟨(some 18), none, (.bin .add .other (.tmp 17) (.const (.int .i64 8)))⟩, ⟨(some 2), none, (.mv (.tmp 18))⟩])
@[reducible] def c79_t2 : LC := (.seq (.ops [⟨(some 15), none, (.mv (.tmp 0))⟩, ⟨(some 16), none, (.bin .shr .other (.tmp 15) (.const (.int .u64 8)))⟩, ⟨(some 0), none, (.mv (.tmp 16))⟩]) [0, 2] c79_s5)
@[reducible] def c79_s6 : LC := (.seq (.ops [⟨(some 19), none, (.mv (.tmp 2))⟩, ⟨(some 20), none, (.mv (.tmp 0))⟩, ⟨(some 21), none, (.cvi .u8 (.tmp 20))⟩, ⟨(some 22), none, (.idxs (.const (.string ⟨#[0, 1, 2, 2, 3, 3, 3, 3, 4, 4, 4, 4, 4, 4, 4, 4, 5, 5, 5, 5, 5, 5, 5, 5, 5, 5, 5, 5, 5, 5, 5, 5, 6, 6, 6, 6, 6, 6, 6, 6, 6, 6, 6, 6, 6, 6, 6, 6, 6, 6, 6, 6, 6, 6, 6, 6, 6, 6, 6, 6, 6, 6, 6, 6, 7, 7, 7, 7, 7, 7, 7, 7, 7, 7, 7, 7, 7, 7, 7, 7, 7, 7, 7, 7, 7, 7, 7, 7, 7, 7, 7, 7, 7, 7, 7, 7, 7, 7, 7, 7, 7, 7, 7, 7, 7, 7, 7, 7, 7, 7, 7, 7, 7, 7, 7, 7, 7, 7, 7, 7, 7, 7, 7, 7, 7, 7, 7, 7, 8, 8, 8, 8, 8, 8, 8, 8, 8, 8, 8, 8, 8, 8, 8, 8, 8, 8, 8, 8, 8, 8, 8, 8, 8, 8, 8, 8, 8, 8, 8, 8, 8, 8, 8, 8, 8, 8, 8, 8, 8, 8, 8, 8, 8, 8, 8, 8, 8, 8, 8, 8, 8, 8, 8, 8, 8, 8, 8, 8, 8, 8, 8, 8, 8, 8, 8, 8, 8, 8, 8, 8, 8, 8, 8, 8, 8, 8, 8, 8, 8, 8, 8, 8, 8, 8, 8, 8, 8, 8, 8, 8, 8, 8, 8, 8, 8, 8, 8, 8, 8, 8, 8, 8, 8, 8, 8, 8, 8, 8, 8, 8, 8, 8, 8, 8, 8, 8, 8, 8, 8, 8, 8, 8, 8, 8, 8, 8]⟩)) (.tmp 21))⟩, ⟨(some 23), none, (.cvi .i64 (.tmp 22))⟩, ⟨(some 24), none, (.bin .add .other (.tmp 19) (.tmp 23))⟩, ⟨(some 2), none, (.mv (.tmp 24))⟩]) [2] .ret)
@[reducible] def c79_s4 : LC := (.seq (.seq (.ops [⟨(some 13), none, (.mv (.tmp 0))⟩, ⟨(some 14), none, (.bin .geq .other (.tmp 13) (.const (.int .u64 256)))⟩]) [0, 2, 14] (.cond (.tmp 14) c79_t2 .skip)) [0, 2] c79_s6)
@[reducible] def c79_s2 : LC := (.seq (.seq (.ops [⟨(some 7), none, (.mv (.tmp 0))⟩, ⟨(some 8), none, (.bin .geq .other (.tmp 7) (.const (.int .u64 65536)))⟩]) [0, 2, 8] (.cond (.tmp 8) c79_t1 .skip)) [0, 2] c79_s4)
@[reducible] def c79_s0 : LC := (.seq (.seq (.ops [⟨(some 3), none, (.mv (.tmp 0))⟩, ⟨(some 4), none, (.bin .geq .other (.tmp 3) (.const (.int .u64 4294967296)))⟩]) [0, 2, 4] (.cond (.tmp 4) c79_t0 .skip)) [0, 2] c79_s2)
@[reducible] def c79 : LC := (.seq (.ops [⟨(some 2), none, (.mv (.const (.int .i64 0)))⟩]) [0, 2] c79_s0)
theorem c79_low : lowC Try.prog ⟨0, 25⟩ (.seq .leaf [0, 2] (.seq (.seq .leaf [0, 2, 4] (.cond (.seq .leaf [0] .leaf) .leaf)) [0, 2] (.seq (.seq .leaf [0, 2, 8] (.cond (.seq .leaf [0, 2] .leaf) .leaf)) [0, 2] (.seq (.seq .leaf [0, 2, 14] (.cond (.seq .leaf [0, 2] .leaf) .leaf)) [0, 2] (.seq .leaf [2] .leaf))))) (Try.f79.body.getD .skip) = c79 := by kernel_rfl
theorem c79_ok {PX : Cx Try.prog} {args : List Value} (ha : args.length ≤ 25) {h : H} {R : Value → H → Prop} (hv : vc PX c79 (retQ [2] (okR R)) (argEnv args 0) h) : Ok PX 79 args.toArray h R :=
  ok_of (res := [2]) Try.func79 rfl rfl rfl c79_low ha hv

@[reducible] def c85_d0 : DT := .q 0 ⟨(some 19), none, (.mv (.tmp 11))⟩ (.q 1 ⟨(some 20), none, (.bin .add .other (.tmp 19) (.const (.int .i64 1)))⟩ (.q 2 ⟨(some 21), none, (.mv (.tmp 2))⟩ (.q 3 ⟨(some 22), none, (.bin .lss .other (.tmp 20) (.tmp 21))⟩ (.q 4 ⟨(some 23), none, (.mv (.tmp 22))⟩ (.q 5 ⟨(some 24), (some (23, true)), (.mv (.tmp 4))⟩ (.q 6 ⟨(some 25), (some (23, true)), (.mv (.tmp 0))⟩ (.q 7 ⟨(some 26), (some (23, true)), (.mv (.tmp 3))⟩ (.q 8 ⟨(some 27), (some (23, true)), (.mv (.tmp 11))⟩ (.q 9 ⟨(some 28), (some (23, true)), (.bin .add .other (.tmp 26) (.tmp 27))⟩ (.q 10 ⟨(some 29), (some (23, true)), (.idx 2 (.tmp 25) (.tmp 28))⟩ (.q 11 ⟨(some 30), (some (23, true)), (.ldn 2 (.tmp 29))⟩ (.q 12 ⟨(some 31), (some (23, true)), (.mv (.tmp 0))⟩ (.q 13 ⟨(some 32), (some (23, true)), (.mv (.tmp 3))⟩ (.q 14 ⟨(some 33), (some (23, true)), (.mv (.tmp 11))⟩ (.q 15 ⟨(some 34), (some (23, true)), (.bin .add .other (.tmp 32) (.tmp 33))⟩ (.q 16 ⟨(some 35), (some (23, true)), (.bin .add .other (.tmp 34) (.const (.int .i64 1)))⟩ (.q 17 ⟨(some 36), (some (23, true)), (.idx 2 (.tmp 31) (.tmp 35))⟩ (.q 18 ⟨(some 37), (some (23, true)), (.ldn 2 (.tmp 36))⟩ (.e 19 [] ⟨(some 38), (some (23, true)), (.callv (.tmp 24) [(.tmp 30), (.tmp 37)])⟩ (.q 20 ⟨(some 39), (some (23, true)), (.bin .lss .other (.tmp 38) (.const (.int .i64 0)))⟩ (.q 21 ⟨(some 40), none, (.pick (.tmp 23) (.tmp 39) (.const (.bool false)))⟩ (.done))))))))))))))))))))))
@[reducible] def c85_t0 : LC := (.ops [⟨(some 41), none, (.mv (.tmp 11))⟩, ⟨(some 42), none, (.bin .add .other (.tmp 41) (.const (.int .i64 1)))⟩, ⟨(some 11), none, (.mv (.tmp 42))⟩])
@[reducible] def c85_d1 : DT := .q 0 ⟨(some 43), none, (.mv (.tmp 4))⟩ (.q 1 ⟨(some 44), none, (.mv (.tmp 0))⟩ (.q 2 ⟨(some 45), none, (.mv (.tmp 3))⟩ (.q 3 ⟨(some 46), none, (.mv (.tmp 10))⟩ (.q 4 ⟨(some 47), none, (.bin .add .other (.tmp 45) (.tmp 46))⟩ (.q 5 ⟨(some 48), none, (.idx 2 (.tmp 44) (.tmp 47))⟩ (.q 6 ⟨(some 49), none, (.ldn 2 (.tmp 48))⟩ (.q 7 ⟨(some 50), none, (.mv (.tmp 0))⟩ (.q 8 ⟨(some 51), none, (.mv (.tmp 3))⟩ (.q 9 ⟨(some 52), none, (.mv (.tmp 11))⟩ (.q 10 ⟨(some 53), none, (.bin .add .other (.tmp 51) (.tmp 52))⟩ (.q 11 ⟨(some 54), none, (.idx 2 (.tmp 50) (.tmp 53))⟩ (.q 12 ⟨(some 55), none, (.ldn 2 (.tmp 54))⟩ (.e 13 [] ⟨(some 56), none, (.callv (.tmp 43) [(.tmp 49), (.tmp 55)])⟩ (.q 14 ⟨(some 57), none, (.bin .lss .other (.tmp 56) (.const (.int .i64 0)))⟩ (.q 15 ⟨(some 58), none, (.un .not (.tmp 57))⟩ (.done))))))))))))))))
@[reducible] def c85_d2 : DT := .q 0 ⟨(some 59), none, (.mv (.tmp 0))⟩ (.q 1 ⟨(some 60), none, (.mv (.tmp 3))⟩ (.q 2 ⟨(some 61), none, (.mv (.tmp 10))⟩ (.q 3 ⟨(some 62), none, (.bin .add .other (.tmp 60) (.tmp 61))⟩ (.q 4 ⟨(some 63), none, (.mv (.tmp 0))⟩ (.q 5 ⟨(some 64), none, (.mv (.tmp 3))⟩ (.q 6 ⟨(some 65), none, (.mv (.tmp 11))⟩ (.q 7 ⟨(some 66), none, (.bin .add .other (.tmp 64) (.tmp 65))⟩ (.q 8 ⟨(some 67), none, (.mv (.tmp 0))⟩ (.q 9 ⟨(some 68), none, (.mv (.tmp 3))⟩ (.q 10 ⟨(some 69), none, (.mv (.tmp 11))⟩ (.q 11 ⟨(some 70), none, (.bin .add .other (.tmp 68) (.tmp 69))⟩ (.q 12 ⟨(some 71), none, (.idx 2 (.tmp 67) (.tmp 70))⟩ (.q 13 ⟨(some 72), none, (.ldn 2 (.tmp 71))⟩ (.q 14 ⟨(some 73), none, (.mv (.tmp 0))⟩ (.q 15 ⟨(some 74), none, (.mv (.tmp 3))⟩ (.q 16 ⟨(some 75), none, (.mv (.tmp 10))⟩ (.q 17 ⟨(some 76), none, (.bin .add .other (.tmp 74) (.tmp 75))⟩ (.q 18 ⟨(some 77), none, (.idx 2 (.tmp 73) (.tmp 76))⟩ (.q 19 ⟨(some 78), none, (.ldn 2 (.tmp 77))⟩ (.q 20 ⟨(some 79), none, (.idx 2 (.tmp 59) (.tmp 62))⟩ (.e 21 [4, 5, 6, 7] ⟨none, none, (.stn 2 (.tmp 79) (.tmp 72))⟩ (.q 22 ⟨(some 80), none, (.idx 2 (.tmp 63) (.tmp 66))⟩ (.e 23 [] ⟨none, none, (.stn 2 (.tmp 80) (.tmp 78))⟩ (.done))))))))))))))))))))))))
@[reducible] def c85_s5 : LC := (.ops [⟨(some 81), none, (.mv (.tmp 11))⟩, ⟨(some 10), none, (.mv (.tmp 81))⟩])
@[reducible] def c85_s4 : LC := (.seq (.draw c85_d2) [0, 2, 3, 4, 11] c85_s5)
@[reducible] def c85_s3 : LC := (.seq (.seq (.draw c85_d1) [0, 2, 3, 4, 10, 11, 58] (.cond (.tmp 58) .ret .skip)) [0, 2, 3, 4, 10, 11] c85_s4)
@[reducible] def c85_s2 : LC := (.seq (.seq (.draw c85_d0) [0, 2, 3, 4, 10, 11, 40] (.cond (.tmp 40) c85_t0 .skip)) [0, 2, 3, 4, 10, 11] c85_s3)
@[reducible] def c85_s1 : LC := (.seq (.seq (.ops [⟨(some 16), none, (.mv (.tmp 11))⟩, ⟨(some 17), none, (.mv (.tmp 2))⟩, ⟨(some 18), none, (.bin .geq .other (.tmp 16) (.tmp 17))⟩]) [0, 2, 3, 4, 10, 11, 18] (.cond (.tmp 18) (.exit 0) .skip)) [0, 2, 3, 4, 10, 11] c85_s2)
@[reducible] def c85_b0 : LC := (.block 1 (.seq (.ops [⟨(some 13), none, (.mv (.tmp 10))⟩, ⟨(some 14), none, (.bin .mul .other (.const (.int .i64 2)) (.tmp 13))⟩, ⟨(some 15), none, (.bin .add .other (.tmp 14) (.const (.int .i64 1)))⟩, ⟨(some 11), none, (.mv (.tmp 15))⟩]) [0, 2, 3, 4, 10, 11] c85_s1))
@[reducible] def c85_l0 : LC := .loop [10] [0, 2, 3, 4] c85_b0
@[reducible] def c85_s0 : LC := (.block 0 c85_l0)
@[reducible] def c85 : LC := (.seq (.ops [⟨(some 12), none, (.mv (.tmp 1))⟩, ⟨(some 10), none, (.mv (.tmp 12))⟩]) [0, 2, 3, 4, 10] c85_s0)
theorem c85_low : lowC Try.prog ⟨0, 82⟩ (.seq .leaf [0, 2, 3, 4, 10] (.block (.loop [10] [0, 2, 3, 4] (.block (.seq .leaf [0, 2, 3, 4, 10, 11] (.seq (.seq .leaf [0, 2, 3, 4, 10, 11, 18] (.cond .leaf .leaf)) [0, 2, 3, 4, 10, 11] (.seq (.seq (.draw [[], [0], [], [0, 1, 2], [0, 1, 2, 3], [0, 1, 2, 4], [4], [4], [4], [4, 7, 8], [4, 6, 7, 8, 9], [4, 6, 7, 8, 9, 10], [4], [4], [4], [4, 13, 14], [4, 13, 14, 15], [4, 12, 13, 14, 15, 16], [4, 12, 13, 14, 15, 16, 17], [0, 1, 2, 3, 4, 5, 6, 7, 8, 9, 10, 11, 12, 13, 14, 15, 16, 17, 18], [4, 19], [4, 19, 20]] (.q 0 (.q 1 (.q 2 (.q 3 (.q 4 (.q 5 (.q 6 (.q 7 (.q 8 (.q 9 (.q 10 (.q 11 (.q 12 (.q 13 (.q 14 (.q 15 (.q 16 (.q 17 (.q 18 (.e 19 [] (.q 20 (.q 21 (.done)))))))))))))))))))))))) [0, 2, 3, 4, 10, 11, 40] (.cond .leaf .leaf)) [0, 2, 3, 4, 10, 11] (.seq (.seq (.draw [[], [], [], [], [2, 3], [1, 2, 3, 4], [1, 2, 3, 4, 5], [], [], [], [8, 9], [7, 8, 9, 10], [7, 8, 9, 10, 11], [0, 1, 2, 3, 4, 5, 6, 7, 8, 9, 10, 11, 12], [13], [13, 14]] (.q 0 (.q 1 (.q 2 (.q 3 (.q 4 (.q 5 (.q 6 (.q 7 (.q 8 (.q 9 (.q 10 (.q 11 (.q 12 (.e 13 [] (.q 14 (.q 15 (.done)))))))))))))))))) [0, 2, 3, 4, 10, 11, 58] (.cond .leaf .leaf)) [0, 2, 3, 4, 10, 11] (.seq (.draw [[], [], [], [1, 2], [], [], [], [5, 6], [], [], [], [9, 10], [8, 11], [12], [], [], [], [15, 16], [14, 15, 16, 17], [14, 15, 16, 17, 18], [0, 3, 14, 15, 16, 17], [0, 1, 2, 3, 8, 9, 10, 11, 12, 13, 14, 15, 16, 17, 18, 19, 20], [4, 7, 21], [0, 1, 2, 3, 4, 5, 6, 7, 8, 9, 10, 11, 12, 13, 14, 15, 16, 17, 18, 19, 20, 21, 22]] (.q 0 (.q 1 (.q 2 (.q 3 (.q 4 (.q 5 (.q 6 (.q 7 (.q 8 (.q 9 (.q 10 (.q 11 (.q 12 (.q 13 (.q 14 (.q 15 (.q 16 (.q 17 (.q 18 (.q 19 (.q 20 (.e 21 [4, 5, 6, 7] (.q 22 (.e 23 [] (.done)))))))))))))))))))))))))) [0, 2, 3, 4, 11] .leaf))))))))) (Try.f85.body.getD .skip) = c85 := by kernel_rfl
theorem c85_ok {PX : Cx Try.prog} {args : List Value} (ha : args.length ≤ 82) {h : H} {R : Value → H → Prop} (hv : vc PX c85 (retQ [] (okR R)) (argEnv args 0) h) : Ok PX 85 args.toArray h R :=
  ok_of (res := []) Try.func85 rfl rfl rfl c85_low ha hv

@[reducible] def c86_s0 : LC := (.seq (.ops [⟨(some 3), none, (.mv (.tmp 0))⟩, ⟨(some 4), none, (.cvi .u64 (.tmp 3))⟩, ⟨(some 5), none, (.call 50 [(.tmp 4)])⟩, ⟨(some 6), none, (.bin .shl .other (.const (.int .u64 1)) (.tmp 5))⟩, ⟨(some 2), none, (.mv (.tmp 6))⟩]) [2] .ret)
@[reducible] def c86 : LC := (.seq (.ops [⟨(some 2), none, (.mv (.const (.int .u64 0)))⟩]) [0] c86_s0)
theorem c86_low : lowC Try.prog ⟨0, 7⟩ (.seq .leaf [0] (.seq .leaf [2] .leaf)) (Try.f86.body.getD .skip) = c86 := by kernel_rfl
theorem c86_ok {PX : Cx Try.prog} {args : List Value} (ha : args.length ≤ 7) {h : H} {R : Value → H → Prop} (hv : vc PX c86 (retQ [2] (okR R)) (argEnv args 0) h) : Ok PX 86 args.toArray h R :=
  ok_of (res := [2]) Try.func86 rfl rfl rfl c86_low ha hv

@[reducible] def c87_d0 : DT := .q 0 ⟨(some 3), none, (.mv (.tmp 0))⟩ (.q 1 ⟨(some 4), none, (.nilck (.tmp 3))⟩ (.q 2 ⟨(some 5), none, (.ld (.tmp 4))⟩ (.q 3 ⟨(some 6), none, (.mv (.tmp 0))⟩ (.q 4 ⟨(some 7), none, (.nilck (.tmp 6))⟩ (.q 5 ⟨(some 8), none, (.ld (.tmp 7))⟩ (.q 6 ⟨(some 9), none, (.bin .shl .other (.tmp 8) (.const (.int .u64 13)))⟩ (.q 7 ⟨(some 10), none, (.bin .xor .other (.tmp 5) (.tmp 9))⟩ (.q 8 ⟨(some 11), none, (.nilck (.tmp 3))⟩ (.e 9 [] ⟨none, none, (.st (.tmp 11) (.tmp 10))⟩ (.done))))))))))
@[reducible] def c87_d1 : DT := .q 0 ⟨(some 12), none, (.mv (.tmp 0))⟩ (.q 1 ⟨(some 13), none, (.nilck (.tmp 12))⟩ (.q 2 ⟨(some 14), none, (.ld (.tmp 13))⟩ (.q 3 ⟨(some 15), none, (.mv (.tmp 0))⟩ (.q 4 ⟨(some 16), none, (.nilck (.tmp 15))⟩ (.q 5 ⟨(some 17), none, (.ld (.tmp 16))⟩ (.q 6 ⟨(some 18), none, (.bin .shr .other (.tmp 17) (.const (.int .u64 7)))⟩ (.q 7 ⟨(some 19), none, (.bin .xor .other (.tmp 14) (.tmp 18))⟩ (.q 8 ⟨(some 20), none, (.nilck (.tmp 12))⟩ (.e 9 [] ⟨none, none, (.st (.tmp 20) (.tmp 19))⟩ (.done))))))))))
@[reducible] def c87_d2 : DT := .q 0 ⟨(some 21), none, (.mv (.tmp 0))⟩ (.q 1 ⟨(some 22), none, (.nilck (.tmp 21))⟩ (.q 2 ⟨(some 23), none, (.ld (.tmp 22))⟩ (.q 3 ⟨(some 24), none, (.mv (.tmp 0))⟩ (.q 4 ⟨(some 25), none, (.nilck (.tmp 24))⟩ (.q 5 ⟨(some 26), none, (.ld (.tmp 25))⟩ (.q 6 ⟨(some 27), none, (.bin .shl .other (.tmp 26) (.const (.int .u64 17)))⟩ (.q 7 ⟨(some 28), none, (.bin .xor .other (.tmp 23) (.tmp 27))⟩ (.q 8 ⟨(some 29), none, (.nilck (.tmp 21))⟩ (.e 9 [] ⟨none, none, (.st (.tmp 29) (.tmp 28))⟩ (.done))))))))))
@[reducible] def c87_s3 : LC := (.seq (.ops [⟨(some 30), none, (.mv (.tmp 0))⟩, ⟨(some 31), none, (.nilck (.tmp 30))⟩, ⟨(some 32), none, (.ld (.tmp 31))⟩, ⟨(some 2), none, (.mv (.tmp 32))⟩]) [2] .ret)
@[reducible] def c87_s2 : LC := (.seq (.draw c87_d2) [0] c87_s3)
@[reducible] def c87_s1 : LC := (.seq (.draw c87_d1) [0] c87_s2)
@[reducible] def c87_s0 : LC := (.seq (.draw c87_d0) [0] c87_s1)
@[reducible] def c87 : LC := (.seq (.ops [⟨(some 2), none, (.mv (.const (.int .u64 0)))⟩]) [0] c87_s0)
theorem c87_low : lowC Try.prog ⟨0, 33⟩ (.seq .leaf [0] (.seq (.draw [[], [0], [1], [], [3], [4], [5], [2, 6], [0], [0, 1, 2, 3, 4, 5, 6, 7, 8]] (.q 0 (.q 1 (.q 2 (.q 3 (.q 4 (.q 5 (.q 6 (.q 7 (.q 8 (.e 9 [] (.done)))))))))))) [0] (.seq (.draw [[], [0], [1], [], [3], [4], [5], [2, 6], [0], [0, 1, 2, 3, 4, 5, 6, 7, 8]] (.q 0 (.q 1 (.q 2 (.q 3 (.q 4 (.q 5 (.q 6 (.q 7 (.q 8 (.e 9 [] (.done)))))))))))) [0] (.seq (.draw [[], [0], [1], [], [3], [4], [5], [2, 6], [0], [0, 1, 2, 3, 4, 5, 6, 7, 8]] (.q 0 (.q 1 (.q 2 (.q 3 (.q 4 (.q 5 (.q 6 (.q 7 (.q 8 (.e 9 [] (.done)))))))))))) [0] (.seq .leaf [2] .leaf))))) (Try.f87.body.getD .skip) = c87 := by kernel_rfl
theorem c87_ok {PX : Cx Try.prog} {args : List Value} (ha : args.length ≤ 33) {h : H} {R : Value → H → Prop} (hv : vc PX c87 (retQ [2] (okR R)) (argEnv args 0) h) : Ok PX 87 args.toArray h R :=
  ok_of (res := [2]) Try.func87 rfl rfl rfl c87_low ha hv

@[reducible] def c88_s0 : LC := (.seq (.ops [⟨(some 9), none, (.mv (.tmp 0))⟩, ⟨(some 10), none, (.mv (.tmp 1))⟩, ⟨(some 11), none, (.bin .sub .other (.tmp 10) (.const (.int .i64 1)))⟩, ⟨(some 12), none, (.mv (.tmp 1))⟩, ⟨(some 13), none, (.mv (.tmp 1))⟩, ⟨(some 14), none, (.bin .add .other (.tmp 13) (.const (.int .i64 1)))⟩, ⟨(some 15), none, (.mv (.tmp 2))⟩, ⟨(some 16), none, (.mv (.tmp 3))⟩, ⟨(some 17), none, (.call 89 [(.tmp 9), (.tmp 11), (.tmp 12), (.tmp 14), (.tmp 15), (.tmp 16)])⟩, ⟨(some 8), none, (.mv (.tmp 17))⟩]) [8] .ret)
@[reducible] def c88 : LC := (.seq (.ops [⟨(some 8), none, (.mv (.const (.int .i64 0)))⟩]) [0, 1, 2, 3] c88_s0)
theorem c88_low : lowC Try.prog ⟨0, 18⟩ (.seq .leaf [0, 1, 2, 3] (.seq .leaf [8] .leaf)) (Try.f88.body.getD .skip) = c88 := by kernel_rfl
theorem c88_ok {PX : Cx Try.prog} {args : List Value} (ha : args.length ≤ 18) {h : H} {R : Value → H → Prop} (hv : vc PX c88 (retQ [8] (okR R)) (argEnv args 0) h) : Ok PX 88 args.toArray h R :=
  ok_of (res := [8]) Try.func88 rfl rfl rfl c88_low ha hv

@[reducible] def c89_s3 : LC := (.seq (.ops [⟨(some 40), none, (.mv (.tmp 2))⟩, ⟨(some 12), none, (.mv (.tmp 40))⟩]) [12] .ret)
@[reducible] def c89_s2 : LC := (.seq (.ops [⟨(some 32), none, (.mv (.tmp 0))⟩, ⟨(some 33), none, (.mv (.tmp 1))⟩, ⟨(some 34), none, (.mv (.tmp 2))⟩, ⟨(some 35), none, (.mv (.tmp 4))⟩, ⟨(some 36), none, (.mv (.tmp 5))⟩, ⟨(some 37), none, (.call 90 [(.tmp 32), (.tmp 33), (.tmp 34), (.tmp 35), (.tmp 36)])⟩, ⟨(some 31), none, (.mv (.tmp 37))⟩, ⟨(some 38), none, (.ext (.tmp 31) 0)⟩, ⟨(some 39), none, (.ext (.tmp 31) 1)⟩, ⟨(some 1), none, (.mv (.tmp 38))⟩, ⟨(some 2), none, (.mv (.tmp 39))⟩]) [2] c89_s3)
@[reducible] def c89_s1 : LC := (.seq (.ops [⟨(some 23), none, (.mv (.tmp 0))⟩, ⟨(some 24), none, (.mv (.tmp 2))⟩, ⟨(some 25), none, (.mv (.tmp 3))⟩, ⟨(some 26), none, (.mv (.tmp 4))⟩, ⟨(some 27), none, (.mv (.tmp 5))⟩, ⟨(some 28), none, (.call 90 [(.tmp 23), (.tmp 24), (.tmp 25), (.tmp 26), (.tmp 27)])⟩, ⟨(some 22), none, (.mv (.tmp 28))⟩, ⟨(some 29), none, (.ext (.tmp 22) 0)⟩, ⟨(some 30), none, (.ext (.tmp 22) 1)⟩, ⟨(some 2), none, (.mv (.tmp 29))⟩, ⟨(some 3), none, (.mv (.tmp 30))⟩]) [0, 1, 2, 4, 5] c89_s2)
@[reducible] def c89_s0 : LC := (.seq (.ops [⟨(some 14), none, (.mv (.tmp 0))⟩, ⟨(some 15), none, (.mv (.tmp 1))⟩, ⟨(some 16), none, (.mv (.tmp 2))⟩, ⟨(some 17), none, (.mv (.tmp 4))⟩, ⟨(some 18), none, (.mv (.tmp 5))⟩, ⟨(some 19), none, (.call 90 [(.tmp 14), (.tmp 15), (.tmp 16), (.tmp 17), (.tmp 18)])⟩, ⟨(some 13), none, (.mv (.tmp 19))⟩, ⟨(some 20), none, (.ext (.tmp 13) 0)⟩, ⟨(some 21), none, (.ext (.tmp 13) 1)⟩, ⟨(some 1), none, (.mv (.tmp 20))⟩, ⟨(some 2), none, (.mv (.tmp 21))⟩]) [0, 1, 2, 3, 4, 5] c89_s1)
@[reducible] def c89 : LC := (.seq (.ops [⟨(some 12), none, (.mv (.const (.int .i64 0)))⟩]) [0, 1, 2, 3, 4, 5] c89_s0)
theorem c89_low : lowC Try.prog ⟨0, 41⟩ (.seq .leaf [0, 1, 2, 3, 4, 5] (.seq .leaf [0, 1, 2, 3, 4, 5] (.seq .leaf [0, 1, 2, 4, 5] (.seq .leaf [2] (.seq .leaf [12] .leaf))))) (Try.f89.body.getD .skip) = c89 := by kernel_rfl
theorem c89_ok {PX : Cx Try.prog} {args : List Value} (ha : args.length ≤ 41) {h : H} {R : Value → H → Prop} (hv : vc PX c89 (retQ [12] (okR R)) (argEnv args 0) h) : Ok PX 89 args.toArray h R :=
  ok_of (res := [12]) Try.func89 rfl rfl rfl c89_low ha hv

@[reducible] def c90_d0 : DT := .q 0 ⟨(some 12), none, (.mv (.tmp 4))⟩ (.q 1 ⟨(some 13), none, (.mv (.tmp 0))⟩ (.q 2 ⟨(some 14), none, (.mv (.tmp 2))⟩ (.q 3 ⟨(some 15), none, (.idx 2 (.tmp 13) (.tmp 14))⟩ (.q 4 ⟨(some 16), none, (.ldn 2 (.tmp 15))⟩ (.q 5 ⟨(some 17), none, (.mv (.tmp 0))⟩ (.q 6 ⟨(some 18), none, (.mv (.tmp 1))⟩ (.q 7 ⟨(some 19), none, (.idx 2 (.tmp 17) (.tmp 18))⟩ (.q 8 ⟨(some 20), none, (.ldn 2 (.tmp 19))⟩ (.e 9 [] ⟨(some 21), none, (.callv (.tmp 12) [(.tmp 16), (.tmp 20)])⟩ (.q 10 ⟨(some 22), none, (.bin .lss .other (.tmp 21) (.const (.int .i64 0)))⟩ (.done)))))))))))
@[reducible] def c90_s1 : LC := (.seq (.ops [⟨(some 28), none, (.mv (.tmp 2))⟩, ⟨(some 29), none, (.mv (.tmp 1))⟩, ⟨(some 10), none, (.mv (.tmp 28))⟩, ⟨(some 11), none, (.mv (.tmp 29))⟩]) [10, 11] .ret)
@[reducible] def c90_t0 : LC := (.seq (.ops [⟨(some 23), none, (.mv (.tmp 3))⟩, ⟨(some 24), none, (.nilck (.tmp 23))⟩, ⟨(some 25), none, (.ld (.tmp 24))⟩, ⟨(some 26), none, (.bin .add .other (.tmp 25) (.const (.int .i64 1)))⟩, ⟨(some 27), none, (.nilck (.tmp 23))⟩, ⟨none, none, (.st (.tmp 27) (.tmp 26))⟩]) [1, 2] c90_s1)
@[reducible] def c90_s2 : LC := (.seq (.ops [⟨(some 30), none, (.mv (.tmp 1))⟩, ⟨(some 31), none, (.mv (.tmp 2))⟩, ⟨(some 10), none, (.mv (.tmp 30))⟩, ⟨(some 11), none, (.mv (.tmp 31))⟩]) [10, 11] .ret)
@[reducible] def c90_s0 : LC := (.seq (.seq (.draw c90_d0) [1, 2, 3, 22] (.cond (.tmp 22) c90_t0 .skip)) [1, 2] c90_s2)
@[reducible] def c90 : LC := (.seq (.ops [⟨(some 10), none, (.mv (.const (.int .i64 0)))⟩, ⟨(some 11), none, (.mv (.const (.int .i64 0)))⟩]) [0, 1, 2, 3, 4] c90_s0)
theorem c90_low : lowC Try.prog ⟨0, 32⟩ (.seq .leaf [0, 1, 2, 3, 4] (.seq (.seq (.draw [[], [], [], [1, 2], [1, 2, 3], [], [], [5, 6], [5, 6, 7], [0, 1, 2, 3, 4, 5, 6, 7, 8], [9]] (.q 0 (.q 1 (.q 2 (.q 3 (.q 4 (.q 5 (.q 6 (.q 7 (.q 8 (.e 9 [] (.q 10 (.done))))))))))))) [1, 2, 3, 22] (.cond (.seq .leaf [1, 2] (.seq .leaf [10, 11] .leaf)) .leaf)) [1, 2] (.seq .leaf [10, 11] .leaf))) (Try.f90.body.getD .skip) = c90 := by kernel_rfl
theorem c90_ok {PX : Cx Try.prog} {args : List Value} (ha : args.length ≤ 32) {h : H} {R : Value → H → Prop} (hv : vc PX c90 (retQ [10, 11] (okR R)) (argEnv args 0) h) : Ok PX 90 args.toArray h R :=
  ok_of (res := [10, 11]) Try.func90 rfl rfl rfl c90_low ha hv

end Go.Proofs.Ytojhnclkhiffkaa

/-
  Marks and boards: what each of their calls does.
-/
namespace Go.Proofs.Ytojhnclkhiffkaa.mk
open Go.Proofs.Ytojhnclkhiffkaa
set_option linter.unusedVariables false
set_option linter.unusedSimpArgs false

variable {PX : Cx Try.prog}
section
variable {h : H} {V : Value → H → Prop} {b o : Nat} {c : Array Value} {E : TypeId}
theorem x23_ok (v : Value) (hb : h b = some (.cells c E)) (ho : o < c.size) (hv : isCell v = true) (hV : V (.tuple #[]) (hupd h b (.cells (c.setIfInBounds o v) E))) : xcM PX 38 #[.pointer (some ⟨b, o, none⟩), v] h V :=
  xc_of (e := Extern.Atomic.storeT) Try.func38 (by kernel_rfl) (by kernel_rfl) (by kernel_rfl) (by kernel_rfl) fun w hh => by
    obtain ⟨r1, r2⟩ := run_astore (P := Try.prog) (hh.blk hb) ho hv
    exact ⟨_, _, _, _, r1, r2, own_set hh hb (by simp), hV⟩
theorem x24_ok {n : Int} (hb : h b = some (.cells c E)) (hc : c[o]? = some (.int .i64 n)) (hV : V (.int .i64 n) h) : xcM PX 39 #[.pointer (some ⟨b, o, none⟩)] h V :=
  xc_of (e := Extern.Atomic.loadT (.int .i64)) Try.func39 (by kernel_rfl) (by kernel_rfl) (by kernel_rfl) (by kernel_rfl) fun w hh => by
    obtain ⟨r1, r2⟩ := run_aload (P := Try.prog) (hh.blk hb) hc
    exact ⟨_, w, h, _, r1, r2, own_still (o := o) hh hb (by simp), hV⟩
theorem x25_ok {n x y : Int} (hb : h b = some (.cells c E)) (hc : c[o]? = some (.int .i64 n)) (hV : V (.bool (n == x)) (if n = x then hupd h b (.cells (c.setIfInBounds o (.int .i64 y)) E) else h)) : xcM PX 40 #[.pointer (some ⟨b, o, none⟩), .int .i64 x, .int .i64 y] h V :=
  xc_of (e := Extern.Atomic.casT (.int .i64)) Try.func40 (by kernel_rfl) (by kernel_rfl) (by kernel_rfl) (by kernel_rfl) fun w hh => by
    by_cases e : n = x
    · subst e
      obtain ⟨r1, r2⟩ := run_acas_hit (P := Try.prog) (y := y) (hh.blk hb) hc
      rw [if_pos rfl, beq_self_eq_true] at hV
      exact ⟨_, _, _, _, r1, r2, own_set hh hb (by simp), hV⟩
    · obtain ⟨r1, r2⟩ := run_acas_miss (P := Try.prog) (y := y) (hh.blk hb) hc e
      rw [if_neg e, beq_false_of_ne e] at hV
      exact ⟨_, w, h, _, r1, r2, own_still (o := o) hh hb (by simp), hV⟩
theorem x27_ok {p : Option Addr} (hb : h b = some (.cells c E)) (hc : c[o]? = some (.pointer p)) (hV : V (.pointer p) h) : xcM PX 42 #[.pointer (some ⟨b, o, none⟩)] h V :=
  xc_of (e := Extern.Atomic.loadT .ptr) Try.func42 (by kernel_rfl) (by kernel_rfl) (by kernel_rfl) (by kernel_rfl) fun w hh => by
    obtain ⟨r1, r2⟩ := run_aloadp (P := Try.prog) (hh.blk hb) hc
    exact ⟨_, w, h, _, r1, r2, own_still (o := o) hh hb (by simp), hV⟩
theorem x28_ok {p y : Option Addr} (hb : h b = some (.cells c E)) (hc : c[o]? = some (.pointer p)) (hV : V (.bool true) (hupd h b (.cells (c.setIfInBounds o (.pointer y)) E))) : xcM PX 51 #[.pointer (some ⟨b, o, none⟩), .pointer p, .pointer y] h V :=
  xc_of (e := Extern.Atomic.casT .ptr) Try.func51 (by kernel_rfl) (by kernel_rfl) (by kernel_rfl) (by kernel_rfl) fun w hh => by
    obtain ⟨s1, s2⟩ := run_samep (P := Try.prog) (w := w) p
    obtain ⟨r1, r2⟩ := run_acasp (P := Try.prog) (y := y) (hh.blk hb) hc s1 s2
    exact ⟨_, _, _, _, r1, r2, own_set hh hb (by simp), hV⟩
end

abbrev markO (n : Int) : Obj := .cells #[.int .i64 n] 34
theorem load_ok {h : H} {b : Nat} {n : Int} (hb : h b = some (markO n)) : Ok PX 23 #[.pointer (some ⟨b, 0, none⟩)] h fun v h' => v = .int .i64 n ∧ h = h' := by
  refine c23_ok (args := [_]) (by simp) ?_
  simp (disch := omega) only [dm_t, wS, simprocAttr, IntKind.bits]
  refine x24_ok hb rfl ?_
  simp (disch := omega) only [dm_t, wS, simprocAttr, IntKind.bits]
theorem store_ok {h : H} {b : Nat} {n : Int} (hb : h b = some (markO n)) (x : Int) : Ok PX 22 #[.pointer (some ⟨b, 0, none⟩), .int .i64 x] h fun v h' => h' = hupd h b (markO x) := by
  refine c22_ok (args := [_, _]) (by simp) ?_
  simp (disch := omega) only [dm_t, wS, simprocAttr, IntKind.bits]
  refine x23_ok _ hb (by simp) rfl ?_
  simp (disch := omega) only [dm_t, wS, simprocAttr, IntKind.bits]
theorem cas_ok {h : H} {b : Nat} {n : Int} (hb : h b = some (markO n)) (x : Int) : Ok PX 24 #[.pointer (some ⟨b, 0, none⟩), .int .i64 n, .int .i64 x] h fun v h' => v = .bool true ∧ h' = hupd h b (markO x) := by
  refine c24_ok (args := [_, _, _]) (by simp) ?_
  simp (disch := omega) only [dm_t, wS, simprocAttr, IntKind.bits]
  refine x25_ok hb rfl ?_
  simp (disch := omega) only [dm_t, wS, simprocAttr, IntKind.bits, beq_self_eq_true]
theorem get_ok {h : H} {b : Nat} {n : Int} (hb : h b = some (markO n)) : Ok PX 11 #[.pointer (some ⟨b, 0, none⟩)] h fun v h' => v = .int .i64 n ∧ h = h' := by
  refine c11_ok (args := [_]) (by simp) ?_
  simp (disch := omega) only [dm_t, wS, simprocAttr, IntKind.bits]
  refine (load_ok hb).k ?_
  rintro _ _ ⟨rfl, rfl⟩
  simp (disch := omega) only [dm_t, wS, simprocAttr, IntKind.bits]
theorem new_ok (h : H) (x : Int) : Ok PX 9 #[.int .i64 x] h fun v h' => ∃ b, v = .pointer (some ⟨b, 0, none⟩) ∧ h b = none ∧ h' = hupd h b (markO x) := by
  refine c9_ok (args := [_]) (by simp) ?_
  simp (disch := omega) only [dm_t, wS, simprocAttr, IntKind.bits]
  rintro b hb
  refine (store_ok (hupd_same _ _ _) x).k ?_
  rintro _ _ rfl
  simp (disch := omega) only [dm_t, wS, simprocAttr, IntKind.bits, hupd_hupd]
  exact ⟨b, rfl, hb, rfl⟩
theorem raise_ok {h : H} {b : Nat} {n : Int} (hb : h b = some (markO n)) (x : Int) : Ok PX 10 #[.pointer (some ⟨b, 0, none⟩), .int .i64 x] h fun v h' => v = .bool (decide (n < x)) ∧ h' = if n < x then hupd h b (markO x) else h := by
  refine c10_ok (args := [_, _]) (by simp) ?_
  simp (disch := omega) only [dm_t, wS, simprocAttr, IntKind.bits]
  refine vc_loop0 (fun h' => h = h') (fun _ => 0) rfl ?_
  rintro _ rfl
  simp (disch := omega) only [dm_t, wS, simprocAttr, IntKind.bits]
  refine (load_ok hb).k ?_
  rintro _ _ ⟨rfl, rfl⟩
  by_cases hx : n < x
  · simp (disch := omega) only [dm_t, wS, simprocAttr, IntKind.bits]
    refine (cas_ok hb x).k ?_
    rintro _ _ ⟨rfl, rfl⟩
    simp (disch := omega) only [dm_t, wS, simprocAttr, IntKind.bits]
    rw [if_pos hx]
  · simp (disch := omega) only [dm_t, wS, simprocAttr, IntKind.bits]
    rw [if_neg hx]
theorem raise_up {h : H} {b : Nat} {n : Int} (hb : h b = some (markO n)) {x : Int} (hx : n < x) : Ok PX 10 #[.pointer (some ⟨b, 0, none⟩), .int .i64 x] h fun v h' => v = .bool true ∧ h' = hupd h b (markO x) :=
  (raise_ok hb x).mono fun v h' ⟨h1, h2⟩ => ⟨by rw [h1, decT hx], by rw [h2, if_pos hx]⟩
theorem raise_dn {h : H} {b : Nat} {n : Int} (hb : h b = some (markO n)) {x : Int} (hx : ¬ n < x) : Ok PX 10 #[.pointer (some ⟨b, 0, none⟩), .int .i64 x] h fun v h' => v = .bool false ∧ h = h' :=
  (raise_ok hb x).mono fun v h' ⟨h1, h2⟩ => ⟨by rw [h1, decF hx], by rw [h2, if_neg hx]⟩
/-! ### Boards -/
abbrev boardO (p : Option Addr) : Obj := .cells #[.pointer p] 53
abbrev pageO (ver : Int) (l : Value) : Obj := .cells #[.int .i64 ver, l] 78
/-- A board's list (none published yet: nil). -/
def Board (h : H) (b : Nat) (ver : Nat) (xs : List Value) : Prop :=
  (ver = 0 ∧ xs = [] ∧ h b = some (boardO none)) ∨
  ∃ pg l, h b = some (boardO (some ⟨pg, 0, none⟩)) ∧ h pg = some (pageO ver l) ∧ b ≠ pg ∧ Sl h l xs
theorem Board.ext {h h' : H} {b ver : Nat} {xs : List Value} (hB : Board h b ver xs) (e : Ext h h') : Board h' b ver xs := by
  rcases hB with ⟨h1, h2, h3⟩ | ⟨pg, l, h1, h2, h3, h4⟩
  · exact .inl ⟨h1, h2, e.at h3⟩
  · exact .inr ⟨pg, l, e.at h1, e.at h2, h3, h4.ext e⟩
/-- .. whose blocks are none of T. -/
def BoardS (T : Nat → Prop) (h : H) (b : Nat) (ver : Nat) (xs : List Value) : Prop :=
  (ver = 0 ∧ xs = [] ∧ h b = some (boardO none) ∧ ¬ T b) ∨
  ∃ pg l, h b = some (boardO (some ⟨pg, 0, none⟩)) ∧ h pg = some (pageO ver l) ∧ b ≠ pg ∧ SlF T h l xs ∧ ¬ T b ∧ ¬ T pg
theorem BoardS.b {T : Nat → Prop} {h : H} {b ver : Nat} {xs : List Value} (hB : BoardS T h b ver xs) : Board h b ver xs := by
  rcases hB with ⟨h1, h2, h3, _⟩ | ⟨pg, l, h1, h2, h3, h4, _⟩
  · exact .inl ⟨h1, h2, h3⟩
  · exact .inr ⟨pg, l, h1, h2, h3, h4.sl⟩
theorem BoardS.fr {T S : Nat → Prop} {h h' : H} {b ver : Nat} {xs : List Value} (hB : BoardS T h b ver xs) (f : Fr S h h') (hs : ∀ x, S x → T x) : BoardS T h' b ver xs := by
  rcases hB with ⟨h1, h2, h3, h4⟩ | ⟨pg, l, h1, h2, h3, h4, h5, h6⟩
  · exact .inl ⟨h1, h2, f _ _ h3 fun h => h4 (hs _ h), h4⟩
  · exact .inr ⟨pg, l, f _ _ h1 fun h => h5 (hs _ h), f _ _ h2 fun h => h6 (hs _ h), h3, h4.fr (f.mono hs), h5, h6⟩
theorem BoardS.sub {T S : Nat → Prop} {h : H} {b ver : Nat} {xs : List Value} (hB : BoardS T h b ver xs) (hs : ∀ x, S x → T x) : BoardS S h b ver xs := by
  rcases hB with ⟨h1, h2, h3, h4⟩ | ⟨pg, l, h1, h2, h3, h4, h5, h6⟩
  · exact .inl ⟨h1, h2, h3, fun h => h4 (hs _ h)⟩
  · exact .inr ⟨pg, l, h1, h2, h3, h4.sub fun x hx _ => hs x hx, fun h => h5 (hs _ h), fun h => h6 (hs _ h)⟩
theorem ploadn_ok {h : H} {b : Nat} (hb : h b = some (boardO none)) : Ok PX 27 #[.pointer (some ⟨b, 0, none⟩)] h fun v h' => v = .pointer none ∧ h = h' := by
  refine c27_ok (args := [_]) (by simp) ?_
  simp (disch := omega) only [dm_t, wS, simprocAttr, IntKind.bits]
  refine x27_ok hb rfl ?_
  simp (disch := omega) only [dm_t, wS, simprocAttr, IntKind.bits]
  refine raw_cv ?_
  simp (disch := omega) only [dm_t, wS, simprocAttr, IntKind.bits]
  refine cv_nil_from (by kernel_rfl) Try.underlying47 ?_
  simp (disch := omega) only [dm_t, wS, simprocAttr, IntKind.bits]
theorem pload_ok {h : H} {b pg : Nat} {ver : Int} {l : Value} (hb : h b = some (boardO (some ⟨pg, 0, none⟩))) (hp : h pg = some (pageO ver l)) : Ok PX 27 #[.pointer (some ⟨b, 0, none⟩)] h fun v h' => v = .pointer (some ⟨pg, 0, none⟩) ∧ h = h' := by
  refine c27_ok (args := [_]) (by simp) ?_
  simp (disch := omega) only [dm_t, wS, simprocAttr, IntKind.bits]
  refine x27_ok hb rfl ?_
  simp (disch := omega) only [dm_t, wS, simprocAttr, IntKind.bits]
  refine raw_cv ?_
  simp (disch := omega) only [dm_t, wS, simprocAttr, IntKind.bits]
  refine cv_from (by kernel_rfl) Try.underlying47 (i := (Try.prog.info? 78).getD default) (by kernel_rfl) (by decide +kernel) hp (by kernel_rfl) ?_
  simp (disch := omega) only [dm_t, wS, simprocAttr, IntKind.bits]
theorem pcasn_ok {h : H} {b nw : Nat} {ver : Int} {l : Value} (hb : h b = some (boardO none)) (hp : h nw = some (pageO ver l)) : Ok PX 41 #[.pointer (some ⟨b, 0, none⟩), .pointer none, .pointer (some ⟨nw, 0, none⟩)] h fun v h' => v = .bool true ∧ h' = hupd h b (boardO (some ⟨nw, 0, none⟩)) := by
  refine c41_ok (args := [_, _, _]) (by simp) ?_
  simp (disch := omega) only [dm_t, wS, simprocAttr, IntKind.bits]
  refine raw_cv ?_
  simp (disch := omega) only [dm_t, wS, simprocAttr, IntKind.bits]
  refine cv_nil_to Try.underlying47 (by kernel_rfl) ?_
  simp (disch := omega) only [dm_t, wS, simprocAttr, IntKind.bits]
  refine raw_cv ?_
  simp (disch := omega) only [dm_t, wS, simprocAttr, IntKind.bits]
  refine cv_to Try.underlying47 (by kernel_rfl) (by kernel_rfl) (by rw [cellAt_of hp]; rfl) ?_
  simp (disch := omega) only [dm_t, wS, simprocAttr, IntKind.bits]
  refine x28_ok hb rfl ?_
  simp (disch := omega) only [dm_t, wS, simprocAttr, IntKind.bits]
theorem pcas_ok {h : H} {b pg nw : Nat} {ver ver' : Int} {l l' : Value} (hb : h b = some (boardO (some ⟨pg, 0, none⟩))) (hp : h pg = some (pageO ver' l')) (hn : h nw = some (pageO ver l)) : Ok PX 41 #[.pointer (some ⟨b, 0, none⟩), .pointer (some ⟨pg, 0, none⟩), .pointer (some ⟨nw, 0, none⟩)] h fun v h' => v = .bool true ∧ h' = hupd h b (boardO (some ⟨nw, 0, none⟩)) := by
  refine c41_ok (args := [_, _, _]) (by simp) ?_
  simp (disch := omega) only [dm_t, wS, simprocAttr, IntKind.bits]
  refine raw_cv ?_
  simp (disch := omega) only [dm_t, wS, simprocAttr, IntKind.bits]
  refine cv_to Try.underlying47 (by kernel_rfl) (by kernel_rfl) (by rw [cellAt_of hp]; rfl) ?_
  simp (disch := omega) only [dm_t, wS, simprocAttr, IntKind.bits]
  refine raw_cv ?_
  simp (disch := omega) only [dm_t, wS, simprocAttr, IntKind.bits]
  refine cv_to Try.underlying47 (by kernel_rfl) (by kernel_rfl) (by rw [cellAt_of hn]; rfl) ?_
  simp (disch := omega) only [dm_t, wS, simprocAttr, IntKind.bits]
  refine x28_ok hb rfl ?_
  simp (disch := omega) only [dm_t, wS, simprocAttr, IntKind.bits]
theorem clone_ok {h : H} {v : Value} {xs : List Value} (hs : Sl h v xs) (hc : xs.all isCell = true) (hl : xs.length ≤ 1000000) : Ok PX 28 #[v] h fun v h' => Own h h' 2 v xs ∧ Ext h h' := by
  refine c28_ok (args := [_]) (by simp) ?_
  obtain ⟨a, c, rfl⟩ := hs.len
  cases a with
  | none =>
    simp (disch := omega) only [dm_t, wS, simprocAttr, IntKind.bits]
    have : xs = [] := by
      rcases hs with ⟨_, h1, h2⟩ | ⟨b, o, cp, c, E, fr, h1, _⟩
      · exact h2
      · simp at h1
    subst this
    exact ⟨.inl ⟨rfl, rfl⟩, Fr.refl _ _⟩
  | some a =>
    simp (disch := omega) only [dm_t, wS, simprocAttr, IntKind.bits]
    rintro la hla
    have hs2 := srcCells_sl (hs.ext (Ext.new hla (.cells #[] 2)))
    refine app_own (new := xs) (xs := []) (h0 := h) (.inr ⟨la, 0, #[], rfl, hupd_same _ _ _, rfl, by simp, fun i hi => by simp at hi, hla⟩) (fun y hy => (Ext.new hla _).back hy (fun _ h => h.elim)) hs2.1 hs2.2 hc rfl (by simp; omega) (by simp; omega) ?_
    intro v' h' ho h1 h2
    simp (disch := omega) only [dm_t, wS, simprocAttr, IntKind.bits]
    exact ⟨ho, fun y o hy _ => h2 y o hy (Ext.new hla _ |>.at hy)⟩
theorem turn_ok {h : H} {b ver : Nat} {xs : List Value} (hB : Board h b ver xs) (hx : xs.all isCell = true) (hxl : xs.length ≤ 1000000) {F : FuncId} {first cap : Array Value} {S : Nat → Prop} {R : H → List Value → H → Prop}
    (hF : callable Try.prog F = true) (hS : ∀ y, S y → h y ≠ none) (hSb : ¬ S b) (hSp : ∀ pg, h b = some (boardO (some ⟨pg, 0, none⟩)) → ¬ S pg) (hver : ver ≤ 1000000)
    (hdoes : ∀ h1 old, Ext h h1 → Own h h1 2 old xs → Ok PX F (first ++ #[old] ++ cap) h1 fun l h2 => ∃ ys, Sl h2 l ys ∧ ys.all isCell = true ∧ ys.length ≤ 1000000 ∧ Fr (fun y => S y ∨ isAt old y) h1 h2 ∧ R h1 ys h2) :
    Ok PX 25 #[.pointer (some ⟨b, 0, none⟩), .func (.func F) first cap] h fun v h' => ∃ ys h1 h2 nw, v = .int .i64 (ver + 1 : Nat) ∧ BoardS (fun y => h2 y ≠ none ∧ y ≠ b ∧ y ≠ nw) h' b (ver + 1) ys ∧ Ext h h1 ∧ R h1 ys h2 ∧ h nw = none ∧ h1 nw ≠ none ∧ Fr (fun y => S y ∨ h y = none ∧ y ≠ nw) h1 h2 ∧ Fr (fun y => y = b ∨ y = nw) h2 h' := by
  refine c25_ok (args := [_, _]) (by simp) ?_
  simp (disch := omega) only [dm_t, wS, simprocAttr, IntKind.bits]
  refine vc_loop0 (fun h' => h = h') (fun _ => 0) rfl ?_
  rintro _ rfl
  simp (disch := omega) only [dm_t, wS, simprocAttr, IntKind.bits]
  rcases hB with ⟨rfl, rfl, hb⟩ | ⟨pg, l, hb, hp, hne, hl⟩
  · refine (ploadn_ok hb).k ?_
    rintro _ _ ⟨rfl, rfl⟩
    simp (disch := omega) only [dm_t, wS, simprocAttr, IntKind.bits]
    rintro nw hnw
    have hbn : b ≠ nw := ne_of hb hnw
    simp (disch := omega) only [dm_t, wS, simprocAttr, IntKind.bits]
    refine ⟨hF, (hdoes _ _ (Ext.new hnw _) (.inl ⟨rfl, rfl⟩)).k ?_⟩
    rintro l2 h2 ⟨ys, hl2, hc2, hlen2, hf2, hR⟩
    have hn0 : ∀ {y}, ¬ isAt (.slice none 0 0) y := by rintro y ⟨o, n, c, h⟩; simp at h
    simp (disch := omega) only [dm_t, wS, simprocAttr, IntKind.bits]
    refine (clone_ok hl2 hc2 hlen2).k ?_
    rintro l3 h3 ⟨ho3, he3⟩
    have hnw2 : h2 nw = some (pageO 1 (.slice none 0 0)) := hf2 _ _ (hupd_same _ _ _) (fun hs => hs.elim (fun hs => hS nw hs hnw) hn0)
    have hb2 : h2 b = some (boardO none) := hf2 _ _ ((hupd_ne _ _ hbn).trans hb) (fun hs => hs.elim hSb hn0)
    have hnw3 := he3.at hnw2
    have hb3 := he3.at hb2
    obtain ⟨a3, c3, rfl⟩ := ho3.sl.len
    simp (disch := omega) only [dm_t, wS, simprocAttr, IntKind.bits, storeH_0 hnw3]
    refine (pcasn_ok (h := hupd h3 nw (pageO 1 (.slice a3 ys.length c3))) (nw := nw) ((hupd_ne _ _ hbn).trans hb3) (hupd_same _ _ _)).k ?_
    rintro _ _ ⟨rfl, rfl⟩
    have hv : hupd (hupd h3 nw (pageO 1 (.slice a3 ys.length c3))) b (boardO (some ⟨nw, 0, none⟩)) nw = some (pageO 1 (.slice a3 ys.length c3)) := (hupd_ne _ _ hbn.symm).trans (hupd_same _ _ _)
    simp (disch := omega) only [dm_t, wS, simprocAttr, IntKind.bits, cellAt_of hv]
    refine ⟨ys, _, h2, nw, .inr ⟨nw, _, hupd_same _ _ _, hv, hbn, ?_, fun h => h.2.1 rfl, fun h => h.2.2 rfl⟩, Ext.new hnw _, hR, hnw, by rw [hupd_same]; simp, hf2.mono fun y hy => .inl (hy.resolve_right hn0), ?_⟩
    · refine ((ho3.fr fun y o hy hat => ?_).slF).sub fun x hx _ => hx.1
      rw [hupd_ne _ _ (by rintro rfl; exact ho3.notAt hb2 hat), hupd_ne _ _ (by rintro rfl; exact ho3.notAt hnw2 hat)]
      exact hy
    · exact (he3.mono fun _ h => h.elim).trans ((Fr.upd (.inr rfl) _).trans (Fr.upd (.inl rfl) _))
  · refine (pload_ok hb hp).k ?_
    rintro _ _ ⟨rfl, rfl⟩
    simp (disch := omega) only [dm_t, wS, simprocAttr, IntKind.bits]
    rintro nw hnw
    have hbn : b ≠ nw := ne_of hb hnw
    have hpn : pg ≠ nw := ne_of hp hnw
    have hp1 : hupd h nw (.cells #[.int .i64 1, .slice none 0 0] 78) pg = some (pageO ver l) := (hupd_ne _ _ hpn).trans hp
    simp (disch := omega) only [dm_t, wS, simprocAttr, IntKind.bits, cellAt_of hp1, storeH_same]
    have hp2 : hupd h nw (.cells #[.int .i64 ((ver : Int) + 1), .slice none 0 0] 78) pg = some (pageO ver l) := (hupd_ne _ _ hpn).trans hp
    simp (disch := omega) only [dm_t, wS, simprocAttr, IntKind.bits, cellAt_of hp2]
    have hl1 := hl.ext (Ext.new hnw (.cells #[.int .i64 ((ver : Int) + 1), .slice none 0 0] 78))
    refine (clone_ok hl1 hx hxl).k ?_
    rintro old h1 ⟨hold, he1⟩
    simp (disch := omega) only [dm_t, wS, simprocAttr, IntKind.bits]
    have hE : Ext h h1 := (Ext.new hnw _).trans he1
    have hnw1 : h1 nw = some (pageO ((ver : Int) + 1) (.slice none 0 0)) := he1.at (hupd_same _ _ _)
    refine ⟨hF, (hdoes _ _ hE (hold.older (Ext.new hnw _))).k ?_⟩
    rintro l2 h2 ⟨ys, hl2, hc2, hlen2, hf2, hR⟩
    simp (disch := omega) only [dm_t, wS, simprocAttr, IntKind.bits]
    refine (clone_ok hl2 hc2 hlen2).k ?_
    rintro l3 h3 ⟨ho3, he3⟩
    have hnw2 : h2 nw = some (pageO ((ver : Int) + 1) (.slice none 0 0)) := hf2 _ _ hnw1 (fun hs => hs.elim (fun hs => hS nw hs hnw) (hold.notAt (hupd_same _ _ _)))
    have hb2 : h2 b = some (boardO (some ⟨pg, 0, none⟩)) := hf2 _ _ (hE.at hb) (fun hs => hs.elim hSb (hold.notAt ((hupd_ne _ _ hbn).trans hb)))
    have hp2 : h2 pg = some (pageO ver l) := hf2 _ _ (hE.at hp) (fun hs => hs.elim (hSp pg hb) (hold.notAt ((hupd_ne _ _ hpn).trans hp)))
    have hnw3 := he3.at hnw2
    have hb3 := he3.at hb2
    have hp3 := he3.at hp2
    obtain ⟨a3, c3, rfl⟩ := ho3.sl.len
    simp (disch := omega) only [dm_t, wS, simprocAttr, IntKind.bits, storeH_0 hnw3]
    refine (pcas_ok (h := hupd h3 nw (pageO ((ver : Int) + 1) (.slice a3 ys.length c3))) (pg := pg) (nw := nw) ((hupd_ne _ _ hbn).trans hb3) ((hupd_ne _ _ hpn).trans hp3) (hupd_same _ _ _)).k ?_
    rintro _ _ ⟨rfl, rfl⟩
    have hv : hupd (hupd h3 nw (pageO ((ver : Int) + 1) (.slice a3 ys.length c3))) b (boardO (some ⟨nw, 0, none⟩)) nw = some (pageO ((ver : Int) + 1) (.slice a3 ys.length c3)) := (hupd_ne _ _ hbn.symm).trans (hupd_same _ _ _)
    simp (disch := omega) only [dm_t, wS, simprocAttr, IntKind.bits, cellAt_of hv]
    refine ⟨ys, h1, h2, nw, rfl, .inr ⟨nw, _, hupd_same _ _ _, hv, hbn, ?_, fun h => h.2.1 rfl, fun h => h.2.2 rfl⟩, hE, hR, hnw, by rw [hnw1]; simp, hf2.mono fun y hy => hy.imp id fun hy => ⟨(hold.older (Ext.new hnw _)).isNew hy, fun h => hold.notAt (hupd_same _ _ _) (h ▸ hy)⟩, ?_⟩
    · refine ((ho3.fr fun y o hy hat => ?_).slF).sub fun x hx _ => hx.1
      rw [hupd_ne _ _ (by rintro rfl; exact ho3.notAt hb2 hat), hupd_ne _ _ (by rintro rfl; exact ho3.notAt hnw2 hat)]
      exact hy
    · exact (he3.mono fun _ h => h.elim).trans ((Fr.upd (.inr rfl) _).trans (Fr.upd (.inl rfl) _))

theorem pub1_ok {h : H} {c : Nat} {l : Value} (x : Value) (hc : h c = some (.cells #[l] 22)) : Ok PX 26 #[x, .pointer (some ⟨c, 0, none⟩)] h fun v h' => v = l ∧ h = h' := by
  refine c26_ok (args := [_, _]) (by simp) ?_
  simp (disch := omega) only [dm_t, wS, simprocAttr, IntKind.bits, cellAt_of hc]
theorem publish_ok {h : H} {b ver : Nat} {xs ys : List Value} {l : Value} (hB : Board h b ver xs) (hx : xs.all isCell = true) (hxl : xs.length ≤ 1000000) (hl : Sl h l ys) (hy : ys.all isCell = true) (hyl : ys.length ≤ 1000000) (hver : ver ≤ 1000000) :
    Ok PX 13 #[.pointer (some ⟨b, 0, none⟩), l] h fun v h' => v = .tuple #[.int .i64 (ver + 1 : Nat), .int .i64 0] ∧ BoardS (fun y => h y ≠ none ∧ y ≠ b) h' b (ver + 1) ys ∧ Fr (fun y => y = b) h h' := by
  obtain ⟨la, lc, rfl⟩ := hl.len
  refine c13_ok (args := [_, _]) (by simp) ?_
  simp (disch := omega) only [dm_t, wS, simprocAttr, IntKind.bits]
  rintro c hc
  simp (disch := omega) only [dm_t, wS, simprocAttr, IntKind.bits]
  refine (turn_ok (S := fun _ => False) (R := fun h1 zs h2 => zs = ys) (hB.ext (Ext.new hc _)) hx hxl (by kernel_rfl) (fun _ h => h.elim) id (fun _ _ => id) hver ?_).k ?_
  · intro h1 old he ho
    refine Ok.mono (pub1_ok old (he.at (hupd_same _ _ _))) ?_
    rintro _ _ ⟨rfl, rfl⟩
    exact ⟨ys, hl.ext ((Ext.new hc _).trans he), hy, hyl, Fr.refl _ _, rfl⟩
  · rintro _ h' ⟨zs, h1, h2, nw, rfl, hB', he, rfl, hnw, _, f1, f2⟩
    simp (disch := omega) only [dm_t, wS, simprocAttr, IntKind.bits]
    have e1 := (Ext.new hc _).trans he
    have f12 : Fr (fun y => (y = b ∨ y = nw) ∨ h y = none) h h' := ((e1.mono fun _ h => h.elim).trans (f1.mono fun x hx => .inr (hx.elim False.elim fun hx => (Ext.new hc _).bk hx.1))).trans (f2.mono fun x hx => .inl hx)
    refine ⟨hB'.sub ?_, f12.less ?_⟩
    · rintro y ⟨hy, hb⟩
      obtain ⟨o, ho⟩ : ∃ o, h y = some o := by cases hh : h y with | none => exact absurd hh hy | some o => exact ⟨o, rfl⟩
      refine ⟨?_, hb, ?_⟩
      · rw [f1 _ _ (e1.at ho) (fun hz => hz.elim id fun hz => ?_)]
        · simp
        · rw [(Ext.new hc _).at ho] at hz; cases hz.1
      · rintro rfl
        have := (hupd_none.1 hnw).2
        rw [this] at ho; cases ho
    · rintro y ((h | rfl) | hz)
      · exact .inl h
      · exact .inr ((Ext.new hc _).back hnw fun _ h => h.elim)
      · exact .inr hz

theorem bget_ok {h : H} {b ver : Nat} {xs : List Value} (hB : Board h b ver xs) (hx : xs.all isCell = true) (hxl : xs.length ≤ 1000000) :
    Ok PX 14 #[.pointer (some ⟨b, 0, none⟩)] h fun v h' => ∃ l, v = .tuple #[l, .int .i64 ver] ∧ Own h h' 2 l xs ∧ Ext h h' := by
  refine c14_ok (args := [_]) (by simp) ?_
  simp (disch := omega) only [dm_t, wS, simprocAttr, IntKind.bits]
  rcases hB with ⟨rfl, rfl, hb⟩ | ⟨pg, l, hb, hp, hne, hl⟩
  · refine (ploadn_ok hb).k ?_
    rintro _ _ ⟨rfl, rfl⟩
    simp (disch := omega) only [dm_t, wS, simprocAttr, IntKind.bits]
    exact ⟨_, rfl, .inl ⟨rfl, rfl⟩, Fr.refl _ _⟩
  · refine (pload_ok hb hp).k ?_
    rintro _ _ ⟨rfl, rfl⟩
    simp (disch := omega) only [dm_t, wS, simprocAttr, IntKind.bits, cellAt_of hp]
    refine (clone_ok hl hx hxl).k ?_
    rintro l2 h2 ⟨ho, he⟩
    simp (disch := omega) only [dm_t, wS, simprocAttr, IntKind.bits, cellAt_of (he.at hp)]
    exact ⟨_, rfl, ho, he⟩
theorem nboard_ok (h : H) : Ok PX 12 #[] h fun v h' => ∃ b, v = .pointer (some ⟨b, 0, none⟩) ∧ h' = hupd h b (boardO none) ∧ h b = none := by
  refine c12_ok (args := []) (by simp) ?_
  simp (disch := omega) only [dm_t, wS, simprocAttr, IntKind.bits]
  rintro b hb
  exact ⟨b, rfl, rfl, hb⟩
theorem known_ok (h : H) : Ok PX 8 #[] h fun v h' => v = .bool true ∧ Ext h h' := by
  refine c8_ok (args := []) (by simp) ?_
  simp (disch := omega) only [dm_t, wS, simprocAttr, IntKind.bits]
  refine (new_ok h 5).k ?_
  rintro _ _ ⟨m, rfl, hm, rfl⟩
  simp (disch := omega) only [dm_t, wS, simprocAttr, IntKind.bits]
  refine (nboard_ok _).k ?_
  rintro _ _ ⟨b, rfl, rfl, hb⟩
  simp (disch := omega) only [dm_t, wS, simprocAttr, IntKind.bits]
  generalize hh2 : hupd (hupd h m (markO 5)) b (boardO none) = h2
  have hm2 : h2 m = some (markO 5) := by rw [← hh2]; exact (Ext.new hb _).at (hupd_same _ _ _)
  have hB : h2 b = some (boardO none) := by rw [← hh2]; exact hupd_same _ _ _
  have e2 : Ext h h2 := by rw [← hh2]; exact (Ext.new hm _).trans (Ext.new hb _)
  refine (raise_up hm2 (x := 7) (by decide)).k ?_
  rintro _ _ ⟨rfl, rfl⟩
  simp (disch := omega) only [dm_t, wS, simprocAttr, IntKind.bits]
  have hm3 := hupd_same h2 m (markO 7)
  refine (raise_dn hm3 (x := 7) (by decide)).k ?_
  rintro _ _ ⟨rfl, rfl⟩
  simp (disch := omega) only [dm_t, wS, simprocAttr, IntKind.bits]
  refine (raise_dn hm3 (x := 6) (by decide)).k ?_
  rintro _ _ ⟨rfl, rfl⟩
  simp (disch := omega) only [dm_t, wS, simprocAttr, IntKind.bits]
  rintro la hla
  have hbm : b ≠ m := by
    rintro rfl; rw [hupd_same] at hb; cases hb
  have hB3 : Board (hupd (hupd h2 m (markO 7)) la (.cells #[.int .i64 1, .int .i64 2] 2)) b 0 [] :=
    .inl ⟨rfl, rfl, (Ext.new hla _).at ((hupd_ne _ _ hbm).trans hB)⟩
  refine (publish_ok hB3 rfl (by simp) (ys := [.int .i64 1, .int .i64 2]) (SlF.lit (S := fun _ => False) rfl id).sl rfl (by simp) (by simp)).k ?_
  rintro _ h4 ⟨rfl, hB4, f4⟩
  simp (disch := omega) only [dm_t, wS, simprocAttr, IntKind.bits]
  refine (bget_ok hB4.b rfl (by simp)).k ?_
  rintro _ h5 ⟨l, rfl, ho5, e5⟩
  obtain ⟨xa, xc, rfl⟩ := ho5.sl.len
  have hm5 : h5 m = some (markO 7) := e5.at (f4 _ _ ((Ext.new hla _).at hm3) hbm.symm)
  simp (disch := omega) only [dm_t, wS, simprocAttr, IntKind.bits]
  refine (get_ok hm5).k ?_
  rintro _ _ ⟨rfl, rfl⟩
  obtain ⟨p, g1, g2⟩ := ho5.sl.load (k := 1) (by simp) .i64
  have g1' : idxV1 1 (.slice xa 2 xc) (.int .i64 1) = _ := g1
  simp (disch := omega) only [dm_t, wS, simprocAttr, IntKind.bits, g1', g2, List.getElem_cons_succ, List.getElem_cons_zero]
  have hbn : h b = none := (Ext.new hm _).back hb fun _ h => h.elim
  refine Fr.own (S := fun y => y = m ∨ y = b) ?_ (by rintro y (rfl | rfl) <;> assumption)
  exact ((((e2.mono fun _ h => h.elim).trans (Fr.upd (.inl rfl) _)).trans (Fr.new hla _)).trans (f4.mono fun _ h => .inr h)).trans (e5.mono fun _ h => h.elim)

end Go.Proofs.Ytojhnclkhiffkaa.mk

/-
  Goroutines in company, joined by a group: what is asked of the starter and of each worker. A worker's judgement and the starter's, as trees of whatever height.
-/
namespace Go.Proofs.Ytojhnclkhiffkaa
open Go.Conc (G goes_go)
open Go.ConcN (RW DWs AtR0)
open Go.ConcR (KK wgBlock WgAt stA smA rd wr mk Payload)
set_option linter.unusedVariables false

/-! ### Heights of trees -/
inductive Tr : Type 1
  | mk (ι : Type) (f : ι → Tr)
def Tr.lt (a : Tr) : Tr → Prop
  | .mk _ f => ∃ i, a = f i
theorem Tr.wf : WellFounded Tr.lt := ⟨fun t => by
  induction t with
  | mk ι f ih =>
    refine ⟨_, fun a ha => ?_⟩
    obtain ⟨i, rfl⟩ := ha
    exact ih i⟩

/-! ### A protocol of one shared cell -/
/-- The cell's type, the group's; the cell's value by its history; who made an entry; which entry may come next; the blocks that a history has published; what a worker leaves; what the starter answers. -/
structure Pro where
  E : TypeId
  tg : TypeId
  val : List Value → Value
  by_ : Value → Nat
  ok : List Value → Value → Prop
  pub : List Value → Nat → Option (Array Value × TypeId)
  post : Value → H → Prop
  fin : Value → H → Prop

section
variable (pr : Pro)
/-- Goroutine k knows the history so far. -/
def nM (k : Nat) (L : List Value) : Obj := noteO pr.E 1 1 k L.toArray
/-- The starter's note at the group: its phase, a bound of the count, what the workers are to leave. -/
def nG (ph V : Nat) (ds : List Value) : Obj := noteO pr.tg 2 (3 + ph) V ds.toArray
/-- A worker's note at the group: what it is to leave. -/
def nW (d : Value) : Obj := noteO pr.tg 2 2 0 #[d]
def Pro.Ext (k : Nat) (L γ : List Value) : Prop := ∃ r, γ = L ++ r ∧ ∀ v ∈ r, pr.by_ v ≠ k
def Pro.At (M : Nat) (γ : List Value) (w : World) : Prop := w.heap[M]? = some (.cells #[pr.val γ] pr.E) ∧ ∀ b c E, pr.pub γ b = some (c, E) → w.heap[b]? = some (.cells c E)
inductive Pro.Hst (e0 : Value) : List Value → Prop
  | one : Pro.Hst e0 [e0]
  | snoc {γ : List Value} {v : Value} : Pro.Hst e0 γ → pr.ok γ v → Pro.Hst e0 (γ ++ [v])
/-- A step at the shared cell: a load; a load and a store. -/
def Pro.Upd (M k : Nat) (γ γ' : List Value) (w w' : World) (es : Array Event) : Prop :=
  (γ' = γ ∧ w' = w ∧ es = #[rd ⟨M, 0, none⟩]) ∨
  ∃ v, pr.by_ v = k ∧ pr.ok γ v ∧ γ' = γ ++ [v] ∧ w' = w.setCell ⟨M, 0, none⟩ (pr.val γ') ∧ es = #[rd ⟨M, 0, none⟩, wr ⟨M, 0, none⟩]
structure Pro.Turn (M k : Nat) (γ γ' : List Value) (h h' : H) : Prop where
  note : h' M = some (nM pr k γ')
  same : ∀ b, b ≠ M → h' b = h b ∨ ∃ c E, pr.pub γ' b = some (c, E) ∧ h' b = some (.cells c E (roO c)) ∧ ((pr.pub γ b = some (c, E) ∧ h b = none) ∨ (pr.pub γ b = none ∧ h b = some (.cells c E)))
  grow : ∀ b x, pr.pub γ b = some x → pr.pub γ' b = some x
  new : ∀ b c E, pr.pub γ' b = some (c, E) → pr.pub γ b = none → h b = some (.cells c E) ∧ h' b = some (.cells c E (roO c)) ∧ b ≠ M

/-- What the starter gives to worker k at a block: (its own, the worker's, its own behind). -/
inductive SpO (k : Nat) : Option Obj → Option Obj → Option Obj → Prop
  | mine (x : Option Obj) : SpO k x none x
  | give (c : Array Value) (E : TypeId) : SpO k (some (.cells c E)) (some (.cells c E)) none
  | copy (c : Array Value) (E : TypeId) (fr : Nat × Nat) : isRo c fr → SpO k (some (.cells c E fr)) (some (.cells c E fr)) (some (.cells c E fr))
  | part (E : TypeId) (n a : Nat) (L : Array Value) (v : Value) : L[a]? = some v → a < n → SpO k (some (noteO E n 0 a L)) (some (oneO a v n E)) (some (noteO E n 0 (a + 1) L))
  | note (L : List Value) : SpO k (some (nM pr 0 L)) (some (nM pr k L)) (some (nM pr 0 L))

/-- What the starter finds behind the join. -/
structure Joined (h : H) (ds : List Value) (hs : List H) (w : World) : Prop where
  len : hs.length = ds.length
  post : ∀ (i : Nat) (d : Value) (x : H), ds[i]? = some d → hs[i]? = some x → pr.post d x
  hol : ∀ x, x ∈ hs → Hol x w
  hist : ∃ M γ e0, h M = some (nM pr 0 [e0]) ∧ (∀ M' k L, h M' = some (nM pr k L) → M' = M) ∧ pr.At M γ w ∧ pr.Hst e0 γ ∧ pr.Ext 0 [e0] γ ∧ (∀ v ∈ γ, pr.by_ v ≤ ds.length) ∧
    ∀ (i : Nat) (x : H), hs[i]? = some x → x M = none ∨ ∃ L, x M = some (nM pr (i + 1) L) ∧ pr.Ext (i + 1) L γ
/-- What it may hold then: what it or a worker held; as its own only what was not there at the start. -/
def Taken (Wg : Nat) (h : H) (hs : List H) (h' : H) : Prop :=
  h' Wg = some (nG pr 9 0 []) ∧ ∀ b o, h' b = some o → b ≠ Wg → plainO o ∧ ∃ x, (x = h ∨ x ∈ hs) ∧ ∃ y, x b = some y ∧ ((∃ c E, o = .cells c E (roF c)) ∨ ¬ ∃ c E, y = .cells c E (roF c))
def noL : Nat → Loc → Prop := fun _ _ => False

variable (P : Program)
/-- A worker's next step: an own one; one at the shared cell; it is at its deferred 'Done'. -/
inductive RobW (R : Goroutine → H → Prop) (g : Goroutine) (h : H) : Prop
  | ord (hs : g.status = .running) (st : ∀ w, Hol h w → (stepG P false g w).goes fun g' w' es => ∃ h', Fra h w h' w' es ∧ R g' h') : RobW R g h
  | sh (hs : g.status = .running) (M k : Nat) (L : List Value) (hM : h M = some (nM pr k L))
      (st : ∀ w γ, Hol h w → pr.At M γ w → pr.Ext k L γ → (∃ e0, pr.Hst e0 γ) → (∀ b c E, pr.pub γ b = some (c, E) → ∀ o, h b = some o → ∃ fr, o = .cells c E fr ∧ isRo c fr) → ∃ g' w' es h' γ', stepG P false g w = .go g' w' es ∧ pr.Upd M k γ γ' w w' es ∧ pr.Turn M k γ γ' h h' ∧ R g' h') : RobW R g h
  | leaf (hs : g.status = .running) (Wg C : Nat) (E : TypeId) (v d : Value) (hd : h Wg = some (nW pr d)) (hC : h C = some (.cells #[v] E)) (hp : pr.post d (hdel h C))
      (st : ∀ w, Hol h w → ∃ m, @Go.Conc.Goes P false (@RW ⟨E⟩ pr.tg Wg C 1 0 0) (@DWs ⟨E⟩ Wg noL noL C 1 1) (@AtR0 ⟨E⟩ P pr.tg Wg C 1 0 1 v) m g w) : RobW R g h

/-- The starter's. -/
inductive RobM (Wk R : Goroutine → H → Prop) (g : Goroutine) (h : H) : Prop
  | ord (hs : g.status = .running) (st : ∀ w, Hol h w → (stepG P true g w).goes fun g' w' es => ∃ h', Fra h w h' w' es ∧ R g' h') : RobM Wk R g h
  | ret (hs : g.status = .running) (hn : (∀ b o, h b = some o → plainO o ∨ o = nG pr 9 0 []) ∨ ∃ Wg, h Wg = some (nG pr 9 0 [])) (st : ∀ w, Hol h w → ∃ v es, stepG P true g w = .ended (.done v) w es ∧ (∀ e ∈ es, EvO h e) ∧ pr.fin v h) : RobM Wk R g h
  | opn (M Wg : Nat) (e0 : Value) (hn : ∀ b o, h b = some o → plainO o) (hM : h M = some (.cells #[pr.val [e0]] pr.E)) (hW : h Wg = some (.cells #[.int .u64 0, .int .u32 0] pr.tg)) (hp : ∀ b, pr.pub [e0] b = none) (hb : pr.by_ e0 = 0) (hne : M ≠ Wg)
      (st : R g (hupd (hupd h M (nM pr 0 [e0])) Wg (nG pr 0 0 []))) : RobM Wk R g h
  | ro (b : Nat) (c : Array Value) (E : TypeId) (hb : h b = some (.cells c E)) (st : R g (hupd h b (.cells c E (roO c)))) : RobM Wk R g h
  | part (b : Nat) (c : Array Value) (E : TypeId) (hb : h b = some (.cells c E)) (hg : ∃ Wg ph V ds, ph < 8 ∧ h Wg = some (nG pr ph V ds)) (st : R g (hupd h b (noteO E c.size 0 0 c))) : RobM Wk R g h
  | dis (hs : g.status = .running) (Wg V : Nat) (ds : List Value) (hW : h Wg = some (nG pr 0 V ds)) (st : ∀ w, Hol h w → ∃ g', stepG P true g w = .go g' w #[mk .disable] ∧ R g' (hupd h Wg (nG pr 1 ds.length ds))) : RobM Wk R g h
  | said (hs : g.status = .running) (Wg ph V : Nat) (ds : List Value) (hph : ph < 8) (hW : h Wg = some (nG pr ph V ds))
      (st : ∀ w, Hol h w → ∃ g' a, a.block = Wg ∧ (stepG P true g w = .go g' w #[mk (.read a)] ∨ stepG P true g w = .go g' w #[mk (.write a)]) ∧ R g' h) : RobM Wk R g h
  | add (hs : g.status = .running) (Wg V : Nat) (ds : List Value) (hW : h Wg = some (nG pr 1 V ds)) (hV : ds.length < 2147483646)
      (st : ∀ w (v : Nat), v ≤ V → Hol h w → WgAt pr.tg Wg w (v * KK) 0 → ∃ g', stepG P true g w = .go g' (w.setCell (stA Wg) (.int .u64 ((v + 1) * KK))) #[rd (stA Wg), wr (stA Wg)] ∧ R g' (hupd h Wg (nG pr 2 V ds))) : RobM Wk R g h
  | ena (hs : g.status = .running) (Wg ph V : Nat) (ds : List Value) (hph : ph = 2 ∨ ph = 6) (hW : h Wg = some (nG pr ph V ds)) (st : ∀ w, Hol h w → ∃ g', stepG P true g w = .go g' w #[mk .enable] ∧ R g' (hupd h Wg (nG pr (ph + 1) V ds))) : RobM Wk R g h
  | go (hs : g.status = .running) (Wg V : Nat) (ds : List Value) (hW : h Wg = some (nG pr 3 V ds))
      (st : ∀ w, Hol h w → ∃ g' child d hc h', stepG P true g w = .spawn g' child w #[] ∧ (∀ b, b ≠ Wg → SpO pr (ds.length + 1) (h b) (hc b) (h' b)) ∧ hc Wg = some (nW pr d) ∧ h' Wg = some (nG pr 0 0 (ds ++ [d])) ∧ Wk child hc ∧ R g' h') : RobM Wk R g h
  | ld (hs : g.status = .running) (Wg V : Nat) (ds : List Value) (hW : h Wg = some (nG pr 1 V ds))
      (st : ∀ w (v : Nat), v ≤ V → Hol h w → WgAt pr.tg Wg w (v * KK) 0 → ∃ g', stepG P true g w = .go g' w #[rd (stA Wg)] ∧ R g' (hupd h Wg (if v = 0 then nG pr 6 0 ds else nG pr 4 v ds))) : RobM Wk R g h
  | cas (hs : g.status = .running) (Wg u : Nat) (ds : List Value) (hW : h Wg = some (nG pr 4 u ds))
      (st : ∀ w (v : Nat), v ≤ u → Hol h w → WgAt pr.tg Wg w (v * KK) 0 →
        (v = u → ∃ g', stepG P true g w = .go g' (w.setCell (stA Wg) (.int .u64 (v * KK + 1))) #[rd (stA Wg), wr (stA Wg)] ∧ R g' (hupd h Wg (nG pr 5 0 ds))) ∧
        (v ≠ u → ∃ g', stepG P true g w = .go g' w #[rd (stA Wg)] ∧ R g' (hupd h Wg (nG pr 1 v ds)))) : RobM Wk R g h
  | sem (hs : g.status = .running) (Wg V : Nat) (ds : List Value) (ho : g.offers = none) (hW : h Wg = some (nG pr 5 V ds))
      (st : ∀ w, Hol h w → ((∃ st, WgAt pr.tg Wg w st 0) → stepG P true g w = .go { g with status := .blocked } w #[]) ∧
        (WgAt pr.tg Wg w 0 1 → ∃ g', stepG P true g w = .go g' (w.setCell (smA Wg) (.int .u32 0)) (Go.Conc.semEvents (smA Wg)) ∧ R g' (hupd h Wg (nG pr 6 0 ds)))) : RobM Wk R g h
  | ld2 (hs : g.status = .running) (Wg V : Nat) (ds : List Value) (hW : h Wg = some (nG pr 6 V ds)) (st : ∀ w, Hol h w → WgAt pr.tg Wg w 0 0 → ∃ g', stepG P true g w = .go g' w #[rd (stA Wg)] ∧ R g' h) : RobM Wk R g h
  | acq (hs : g.status = .running) (Wg V : Nat) (ds : List Value) (hW : h Wg = some (nG pr 7 V ds))
      (st : ∀ w, Hol h w → ∃ g', stepG P true g w = .go g' w #[mk (.acquire (stA Wg))] ∧ ∀ hs, Joined pr h ds hs w → ∃ h', Hol h' w ∧ Taken pr Wg h hs h' ∧ R g' h') : RobM Wk R g h

variable {pr P}
theorem goes_mono {s : GStep} {K K' : Goroutine → World → Array Event → Prop} (h : s.goes K) (hk : ∀ g w es, K g w es → K' g w es) : s.goes K' := by
  cases s <;> first | exact hk _ _ _ h | exact h.elim
theorem RobW.mono {R R' : Goroutine → H → Prop} (hr : ∀ g h, R g h → R' g h) {g : Goroutine} {h : H} (H0 : RobW pr P R g h) : RobW pr P R' g h := by
  cases H0 with
  | ord hs st => exact .ord hs fun w hw => goes_mono (st w hw) fun _ _ _ ⟨h', f, r⟩ => ⟨h', f, hr _ _ r⟩
  | sh hs M k L hM st => exact .sh hs M k L hM fun w γ hw ha he hH hp => let ⟨g', w', es, h', γ', h1, h2, h3, h4⟩ := st w γ hw ha he hH hp; ⟨g', w', es, h', γ', h1, h2, h3, hr _ _ h4⟩
  | leaf hs Wg C E v d hd hC hp st => exact .leaf hs Wg C E v d hd hC hp st
theorem RobM.mono {Wk R R' : Goroutine → H → Prop} (hr : ∀ g h, R g h → R' g h) {g : Goroutine} {h : H} (H0 : RobM pr P Wk R g h) : RobM pr P Wk R' g h := by
  cases H0 with
  | ord hs st => exact .ord hs fun w hw => goes_mono (st w hw) fun _ _ _ ⟨h', f, r⟩ => ⟨h', f, hr _ _ r⟩
  | ret hs hn st => exact .ret hs hn st
  | opn M Wg e0 hn hM hW hp hb hne st => exact .opn M Wg e0 hn hM hW hp hb hne (hr _ _ st)
  | ro b c E hb st => exact .ro b c E hb (hr _ _ st)
  | part b c E hb hg st => exact .part b c E hb hg (hr _ _ st)
  | dis hs Wg V ds hW st => exact .dis hs Wg V ds hW fun w hw => let ⟨g', h1, h2⟩ := st w hw; ⟨g', h1, hr _ _ h2⟩
  | said hs Wg ph V ds hph hW st => exact .said hs Wg ph V ds hph hW fun w hw => let ⟨g', a, h1, h2, h3⟩ := st w hw; ⟨g', a, h1, h2, hr _ _ h3⟩
  | add hs Wg V ds hW hV st => exact .add hs Wg V ds hW hV fun w v hv hw ha => let ⟨g', h1, h2⟩ := st w v hv hw ha; ⟨g', h1, hr _ _ h2⟩
  | ena hs Wg ph V ds hph hW st => exact .ena hs Wg ph V ds hph hW fun w hw => let ⟨g', h1, h2⟩ := st w hw; ⟨g', h1, hr _ _ h2⟩
  | go hs Wg V ds hW st => exact .go hs Wg V ds hW fun w hw => let ⟨g', ch, d, hc, h', h1, h2, h3, h4, h5, h6⟩ := st w hw; ⟨g', ch, d, hc, h', h1, h2, h3, h4, h5, hr _ _ h6⟩
  | ld hs Wg V ds hW st => exact .ld hs Wg V ds hW fun w v hv hw ha => let ⟨g', h1, h2⟩ := st w v hv hw ha; ⟨g', h1, hr _ _ h2⟩
  | cas hs Wg u ds hW st => exact .cas hs Wg u ds hW fun w v hv hw ha => ⟨fun e => let ⟨g', h1, h2⟩ := (st w v hv hw ha).1 e; ⟨g', h1, hr _ _ h2⟩, fun e => let ⟨g', h1, h2⟩ := (st w v hv hw ha).2 e; ⟨g', h1, hr _ _ h2⟩⟩
  | sem hs Wg V ds ho hW st => exact .sem hs Wg V ds ho hW fun w hw => ⟨(st w hw).1, fun e => let ⟨g', h1, h2⟩ := (st w hw).2 e; ⟨g', h1, hr _ _ h2⟩⟩
  | ld2 hs Wg V ds hW st => exact .ld2 hs Wg V ds hW fun w hw ha => let ⟨g', h1, h2⟩ := st w hw ha; ⟨g', h1, hr _ _ h2⟩
  | acq hs Wg V ds hW st => exact .acq hs Wg V ds hW fun w hw => let ⟨g', h1, h2⟩ := st w hw; ⟨g', h1, fun hs hj => let ⟨h', k1, k2, k3⟩ := h2 hs hj; ⟨h', k1, k2, hr _ _ k3⟩⟩

variable (pr P)
/-- The trees. -/
def TW : Tr → Goroutine → H → Prop
  | .mk ι f => RobW pr P fun g h => ∃ i, TW (f i) g h
def JW (g : Goroutine) (h : H) : Prop := ∃ α, TW pr P α g h
def TM : Tr → Goroutine → H → Prop
  | .mk ι f => RobM pr P (JW pr P) fun g h => ∃ i, TM (f i) g h
def JM (g : Goroutine) (h : H) : Prop := ∃ α, TM pr P α g h
variable {pr P}
theorem JW.of {g : Goroutine} {h : H} (H0 : RobW pr P (JW pr P) g h) : JW pr P g h :=
  ⟨.mk {x : Goroutine × H // JW pr P x.1 x.2} fun x => Classical.choose x.2, H0.mono fun g h hj => ⟨⟨(g, h), hj⟩, Classical.choose_spec hj⟩⟩
theorem JM.of {g : Goroutine} {h : H} (H0 : RobM pr P (JW pr P) (JM pr P) g h) : JM pr P g h :=
  ⟨.mk {x : Goroutine × H // JM pr P x.1 x.2} fun x => Classical.choose x.2, H0.mono fun g h hj => ⟨⟨(g, h), hj⟩, Classical.choose_spec hj⟩⟩
variable (pr P)
/-- The worker's walks, the starter's. -/
def CW : Cx P := ⟨false, JW pr P, fun _ _ hs st => JW.of (.ord hs st)⟩
def CM : Cx P := ⟨true, JM pr P, fun _ _ hs st => JM.of (.ord hs st)⟩
end
end Go.Proofs.Ytojhnclkhiffkaa

/-
  What several goroutines hold lies apart; an own step of one leaves what another holds; the places that one owns, or may read.
-/
namespace Go.Proofs.Ytojhnclkhiffkaa
open Go.Conc
open Go.ConcR (rd wr mk)
set_option linter.unusedVariables false

/-- Two goroutines hold these of one block. -/
inductive Dj : Obj → Obj → Prop
  | ro {c c' : Array Value} {E E' : TypeId} {fr fr' : Nat × Nat} : isRo c fr → isRo c' fr' → Dj (.cells c E fr) (.cells c' E' fr')
  | one {i i' n n' : Nat} {v v' : Value} {E E' : TypeId} : i ≠ i' → Dj (oneO i v n E) (oneO i' v' n' E')
  | onePart {i n n' a : Nat} {v : Value} {E E' : TypeId} {L : Array Value} : i < a → Dj (oneO i v n E) (noteO E' n' 0 a L)
  | partOne {i n n' a : Nat} {v : Value} {E E' : TypeId} {L : Array Value} : i < a → Dj (noteO E' n' 0 a L) (oneO i v n E)
  | note {t t' n n' a a' : Nat} {E E' : TypeId} {L L' : Array Value} : 1 ≤ t → 1 ≤ t' → Dj (noteO E n t a L) (noteO E' n' t' a' L')
theorem Dj.symm {o o' : Obj} (d : Dj o o') : Dj o' o := by
  cases d with
  | ro h h' => exact .ro h' h
  | one h => exact .one (Ne.symm h)
  | onePart h => exact .partOne h
  | partOne h => exact .onePart h
  | note h h' => exact .note h' h
theorem chO_ro {c : Array Value} {E : TypeId} {fr : Nat × Nat} {o : Obj} (h : chO (.cells c E fr) o) (hr : isRo c fr) : o = .cells c E fr := by
  simp only [chO, oneOf_cells, if_pos hr] at h; exact h
theorem chO_one {i n : Nat} {v : Value} {E : TypeId} {o : Obj} (h : chO (oneO i v n E) o) : ∃ v', o = oneO i v' n E := by
  simp only [chO, oneOf_oneO] at h; exact h
theorem chO_note {E : TypeId} {n t a : Nat} {L : Array Value} {o : Obj} (h : chO (noteO E n t a L) o) : o = noteO E n t a L := by
  simp only [chO, oneOf_noteO] at h; exact h
theorem chO_def {l : Option (List Deferred)} {o : Obj} (h : chO (.deferred l) o) (hp : oneOf (.deferred l) = none) : o = .deferred l := by
  simp only [chO, hp] at h; exact h
theorem Dj.ch {o o' o1 : Obj} (d : Dj o o') (h : chO o o1) : Dj o1 o' := by
  cases d with
  | ro hr hr' => rw [chO_ro h hr]; exact .ro hr hr'
  | one hi => obtain ⟨v, rfl⟩ := chO_one h; exact .one hi
  | onePart hi => obtain ⟨v, rfl⟩ := chO_one h; exact .onePart hi
  | partOne hi => rw [chO_note h]; exact .partOne hi
  | note h1 h2 => rw [chO_note h]; exact .note h1 h2
theorem HolO_one {i n : Nat} {v : Value} {E : TypeId} {x : Option Obj} : HolO (oneO i v n E) x ↔ ∃ c, x = some (.cells c E (0, 0)) ∧ c.size = n ∧ c[i]? = some v := by
  simp only [HolO, oneOf_oneO]
theorem HolO_note {E : TypeId} {n t a : Nat} {L : Array Value} {x : Option Obj} : HolO (noteO E n t a L) x ↔ ∃ c, x = some (.cells c E (0, 0)) ∧ c.size = n ∧ (t = 0 → ∀ i, a ≤ i → c[i]? = L[i]?) ∧ (2 ≤ t → ∃ st sm, c = #[.int .u64 st, .int .u32 sm]) := by
  simp only [HolO, oneOf_noteO, noteOf_noteO]
theorem HolO_ro {c : Array Value} {E : TypeId} {fr : Nat × Nat} {x : Option Obj} (hr : isRo c fr) : HolO (.cells c E fr) x ↔ ∃ fr', x = some (.cells c E fr') ∧ (fr = roO c → fr' = (0, 0)) := by
  simp only [HolO, oneOf_cells, noteOf_cells, if_pos hr]
theorem HolO_own {c : Array Value} {E : TypeId} {fr : Nat × Nat} {x : Option Obj} (hr : ¬ isRo c fr) : HolO (.cells c E fr) x ↔ x = some (.cells c E fr) := by
  simp only [HolO, oneOf_cells, noteOf_cells, if_neg hr]
theorem kpO_one {i n : Nat} {v : Value} {E : TypeId} {x x' : Option Obj} : kpO (some (oneO i v n E)) x x' ↔ ∃ c E f v, x = some (.cells c E f) ∧ x' = some (.cells (c.setIfInBounds i v) E f) := by
  simp only [kpO, oneOf_oneO]
theorem kpO_note {E : TypeId} {n t a : Nat} {L : Array Value} {x x' : Option Obj} : kpO (some (noteO E n t a L)) x x' ↔ x' = x := by
  simp only [kpO, oneOf_noteO]; exact Iff.rfl
theorem kpO_ro {c : Array Value} {E : TypeId} {fr : Nat × Nat} {x x' : Option Obj} (hr : isRo c fr) (h : kpO (some (.cells c E fr)) x x') : x' = x := by
  simp only [kpO, oneOf_cells] at h; exact h hr
theorem Dj.hol {o o' : Obj} (d : Dj o o') {x x' : Option Obj} (h : kpO (some o) x x') (hh : HolO o' x) : HolO o' x' := by
  cases d with
  | ro hr hr' => rw [kpO_ro hr h]; exact hh
  | one hi =>
    obtain ⟨c, E, f, v, rfl, rfl⟩ := kpO_one.1 h
    obtain ⟨c', e1, e2, e3⟩ := HolO_one.1 hh
    simp only [Option.some.injEq, Obj.cells.injEq] at e1
    obtain ⟨rfl, rfl, rfl⟩ := e1
    exact HolO_one.2 ⟨_, rfl, by simpa using e2, by rw [Array.getElem?_setIfInBounds_ne hi]; exact e3⟩
  | onePart hi =>
    obtain ⟨c, E, f, v, rfl, rfl⟩ := kpO_one.1 h
    obtain ⟨c', e1, e2, e3, e4⟩ := HolO_note.1 hh
    simp only [Option.some.injEq, Obj.cells.injEq] at e1
    obtain ⟨rfl, rfl, rfl⟩ := e1
    exact HolO_note.2 ⟨_, rfl, by simpa using e2, fun _ j hj => by rw [Array.getElem?_setIfInBounds_ne (by omega)]; exact e3 rfl j hj, fun h => by omega⟩
  | partOne hi => rw [kpO_note.1 h]; exact hh
  | note h1 h2 => rw [kpO_note.1 h]; exact hh

/-- What two hold lies apart. -/
def Ap (h h' : H) : Prop := ∀ b o o', h b = some o → h' b = some o' → Dj o o'
theorem Ap.symm {h h' : H} (a : Ap h h') : Ap h' h := fun b o o' h1 h2 => (a b o' o h2 h1).symm
section
variable {h h1 hk : H} {w w1 : World} {es : Array Event}
theorem Fra.other (f : Fra h w h1 w1 es) (a : Ap h hk) (hh : Hol hk w) : Hol hk w1 := by
  intro b o' hb
  have hlt := hh.lt hb
  have hk' := f.keep b hlt
  have ho := hh b o' hb
  cases hbb : h b with
  | none =>
    rw [hbb] at hk'
    have : w1.heap[b]? = w.heap[b]? := hk'
    rw [this]; exact ho
  | some o => rw [hbb] at hk'; exact (a b o o' hbb hb).hol hk' ho
theorem Fra.ap (f : Fra h w h1 w1 es) (a : Ap h hk) (hh : Hol hk w) : Ap h1 hk := by
  intro b o1 o' hb hb'
  obtain ⟨o, ho, hc⟩ := f.old b o1 hb (hh.lt hb')
  exact (a b o o' ho hb').ch hc
/-- A block that is held by nobody else but is not among what this one writes. -/
theorem Fra.block (f : Fra h w h1 w1 es) {b : Nat} (hlt : b < w.heap.size) (hb : h b = none ∨ (∃ c E fr, h b = some (.cells c E fr) ∧ isRo c fr) ∨ (∃ E n t a L, h b = some (noteO E n t a L)) ∨ h b = some (.deferred none)) : w1.heap[b]? = w.heap[b]? := by
  have hk' := f.keep b hlt
  rcases hb with hb | ⟨c, E, fr, hb, hr⟩ | ⟨E, n, t, a, L, hb⟩ | hb
  · rw [hb] at hk'; exact hk'
  · rw [hb] at hk'; exact kpO_ro hr hk'
  · rw [hb] at hk'; exact kpO_note.1 hk'
  · rw [hb] at hk'; exact hk'

/-! ### Places -/
/-- Its own places; those that it may read. -/
def OwnL (h : H) : Loc → Prop
  | .cell a => (∃ c E fr, h a.block = some (.cells c E fr) ∧ ¬ isRo c fr) ∨ (a.spot = none ∧ ∃ v n E, h a.block = some (oneO a.off v n E)) ∨ (a.spot = none ∧ ∃ s n E L, h a.block = some (noteO E n 0 s L) ∧ s ≤ a.off)
  | .obj r => ∃ o, h r = some o ∧ (match o with | .map .. | .mapIter .. => True | _ => False)
  | _ => False
def RdL (h : H) : Loc → Prop
  | .cell a => ∃ c E fr, h a.block = some (.cells c E fr) ∧ isRo c fr
  | _ => False
def LocLt (n : Nat) : Loc → Prop
  | .cell a => a.block < n
  | .obj r => r < n
  | _ => True
theorem OwnL.lt (hh : Hol h w) {l : Loc} (ho : OwnL h l) : LocLt w.heap.size l := by
  cases l with
  | cell a =>
    rcases ho with ⟨c, E, fr, hb, _⟩ | ⟨_, v, n, E, hb⟩ | ⟨_, s, n, E, L, hb, _⟩ <;> exact hh.lt hb
  | obj r => obtain ⟨o, hb, _⟩ := ho; exact hh.lt hb
  | _ => exact ho.elim
theorem RdL.lt (hh : Hol h w) {l : Loc} (ho : RdL h l) : LocLt w.heap.size l := by
  cases l with
  | cell a => obtain ⟨c, E, fr, hb, _⟩ := ho; exact hh.lt hb
  | _ => exact ho.elim
/-- What an access touches. -/
theorem EvO.touch {e : Event} (he : EvO h e) {x : Touch} (hx : (MemAct.ofEvent e).touch? = some x) : OwnL h x.loc ∨ (RdL h x.loc ∧ x.write = false) := by
  obtain ⟨loc, wr, sy⟩ := e
  cases loc with
  | cell a =>
    have hx' : some (⟨.cell a, wr, if sy then .atomic else .plain⟩ : Touch) = some x := by rw [← hx]; cases wr <;> cases sy <;> rfl
    simp only [Option.some.injEq] at hx'
    subst hx'
    rcases he with ⟨c, E, fr, hb, hw⟩ | ⟨hs, o, v, n, E, hb, ho⟩
    · by_cases hr : isRo c fr
      · refine .inr ⟨⟨c, E, fr, hb, hr⟩, ?_⟩
        cases hwr : wr with
        | false => rfl
        | true => exact absurd hr (hw hwr)
      · exact .inl (.inl ⟨c, E, fr, hb, hr⟩)
    · rw [oneOf_spec ho] at hb
      exact .inl (.inr (.inl ⟨hs, v, n, E, hb⟩))
  | obj r =>
    have hl : x.loc = .obj r := by
      revert hx
      cases wr <;> cases sy <;> simp [MemAct.ofEvent, MemAct.touch?] <;> (intro hx; subst hx; rfl)
    rw [hl]
    exact .inl he
  | mark m =>
    exfalso
    have hx' : (MemAct.mark m).touch? = some x := hx
    rcases he with he | ⟨f, rfl⟩
    · have := he.touch
      rw [this] at hx'; cases hx'
    · simp [MemAct.touch?] at hx'
  | _ => exact he.elim
theorem EvO.mark {e : Event} (he : EvO h e) : e.loc ≠ .mark .disable ∧ e.loc ≠ .mark .enable ∧ (∀ a, e.loc ≠ .mark (.release a)) := by
  obtain ⟨loc, wr, sy⟩ := e
  cases loc with
  | mark m =>
    rcases he with he | ⟨f, rfl⟩
    · refine ⟨fun h => he.ne_disable (by simpa using h), fun h => he.ne_enable (by simpa using h), fun a h => ?_⟩
      have he : m = .noRoom := he
      subst he
      simp at h
    · simp
  | _ => simp
/-- How one holds a block of which it owns a place. -/
theorem Ap.own (a : Ap h hk) {l : Loc} (ho : OwnL h l) : ¬ OwnL hk l ∧ ¬ RdL hk l := by
  cases l with
  | cell ad =>
    have nro : ∀ {o : Obj} {c : Array Value} {E : TypeId} {fr : Nat × Nat}, h ad.block = some o → hk ad.block = some (.cells c E fr) → ∃ c0 E0 fr0, o = .cells c0 E0 fr0 ∧ isRo c0 fr0 ∧ isRo c fr := by
      intro o c E fr h1 h2
      have d := a _ _ _ h1 h2
      cases d with | ro x y => exact ⟨_, _, _, rfl, x, y⟩
    have own : ∀ {c : Array Value} {E : TypeId} {fr : Nat × Nat}, hk ad.block = some (.cells c E fr) → False := by
      intro c E fr hb'
      rcases ho with ⟨c0, E0, fr0, hb, hr⟩ | ⟨_, v, n, E0, hb⟩ | ⟨_, s, n, E0, L, hb, _⟩
      · obtain ⟨c1, E1, fr1, e, hr1, _⟩ := nro hb hb'
        simp only [Obj.cells.injEq] at e
        obtain ⟨rfl, rfl, rfl⟩ := e
        exact hr hr1
      · obtain ⟨c1, E1, fr1, e, _⟩ := nro hb hb'; cases e
      · obtain ⟨c1, E1, fr1, e, _⟩ := nro hb hb'; cases e
    refine ⟨?_, fun ⟨c', E', fr', hb', hr'⟩ => own hb'⟩
    rintro (⟨c', E', fr', hb', hr'⟩ | ⟨_, v', n', E', hb'⟩ | ⟨_, s', n', E', L', hb', hs'⟩)
    · exact own hb'
    · rcases ho with ⟨c, E, fr, hb, hr⟩ | ⟨_, v, n, E, hb⟩ | ⟨_, s, n, E, L, hb, hs⟩
      · have d := a _ _ _ hb hb'
        generalize hx' : oneO ad.off v' n' E' = x' at d
        cases d with | ro h1 h2 => cases hx'
      · have d := a _ _ _ hb hb'
        generalize hx : oneO ad.off v n E = x at d
        generalize hx' : oneO ad.off v' n' E' = x' at d
        cases d with
        | ro h1 h2 => cases hx
        | one hi => simp only [oneO, Obj.deferred.injEq, Option.some.injEq, List.cons.injEq, Deferred.mk.injEq, Target.collected.injEq] at hx hx'; omega
        | onePart hi => cases hx'
        | partOne hi => cases hx
        | note h1 h2 => cases hx
      · have d := a _ _ _ hb hb'
        generalize hx : noteO E n 0 s L = x at d
        generalize hx' : oneO ad.off v' n' E' = x' at d
        cases d with
        | ro h1 h2 => cases hx
        | one hi => cases hx
        | onePart hi => cases hx
        | partOne hi => simp only [oneO, noteO, Obj.deferred.injEq, Option.some.injEq, List.cons.injEq, Deferred.mk.injEq, Target.collected.injEq] at hx hx'; omega
        | note h1 h2 => cases hx'
    · rcases ho with ⟨c, E, fr, hb, hr⟩ | ⟨_, v, n, E, hb⟩ | ⟨_, s, n, E, L, hb, hs⟩
      · have d := a _ _ _ hb hb'
        generalize hx' : noteO E' n' 0 s' L' = x' at d
        cases d with | ro h1 h2 => cases hx'
      · have d := a _ _ _ hb hb'
        generalize hx : oneO ad.off v n E = x at d
        generalize hx' : noteO E' n' 0 s' L' = x' at d
        cases d with
        | ro h1 h2 => cases hx
        | one hi => cases hx'
        | onePart hi => simp only [oneO, noteO, Obj.deferred.injEq, Option.some.injEq, List.cons.injEq, Deferred.mk.injEq, Target.collected.injEq] at hx hx'; omega
        | partOne hi => cases hx
        | note h1 h2 => cases hx
      · have d := a _ _ _ hb hb'
        generalize hx : noteO E n 0 s L = x at d
        generalize hx' : noteO E' n' 0 s' L' = x' at d
        cases d with
        | ro h1 h2 => cases hx
        | one hi => cases hx
        | onePart hi => cases hx
        | partOne hi => cases hx'
        | note h1 h2 => simp only [noteO, Obj.deferred.injEq, Option.some.injEq, List.cons.injEq, Deferred.mk.injEq, Target.collected.injEq] at hx hx'; omega
  | obj r =>
    refine ⟨?_, id⟩
    rintro ⟨o', hb', hm'⟩
    obtain ⟨o, hb, hm⟩ := ho
    have d := a _ _ _ hb hb'
    cases d <;> first | exact hm | exact hm'
  | _ => exact ho.elim
/-- Behind an own step its places are what they were, or new. -/
theorem Fra.ownL (f : Fra h w h1 w1 es) {l : Loc} (ho : OwnL h1 l) : OwnL h l ∨ ¬ LocLt w.heap.size l := by
  cases l with
  | cell ad =>
    by_cases hlt : ad.block < w.heap.size
    · left
      rcases ho with ⟨c, E, fr, hb, hr⟩ | ⟨hs, v, n, E, hb⟩ | ⟨hs, s, n, E, L, hb, hl⟩
      · obtain ⟨o, hb0, hc⟩ := f.old _ _ hb hlt
        cases o with
        | cells c0 E0 fr0 =>
          refine .inl ⟨c0, E0, fr0, hb0, fun hr0 => ?_⟩
          have := chO_ro hc hr0
          simp only [Obj.cells.injEq] at this
          obtain ⟨rfl, rfl, rfl⟩ := this
          exact hr hr0
        | deferred l =>
          exfalso
          unfold chO at hc
          split at hc
          · obtain ⟨v, hc⟩ := hc; cases hc
          · cases hc
        | _ => simp [chO, oneOf] at hc
      · obtain ⟨o, hb0, hc⟩ := f.old _ _ hb hlt
        refine .inr (.inl ⟨hs, ?_⟩)
        cases o with
        | deferred l =>
          cases hone : oneOf (.deferred l) with
          | some x =>
            obtain ⟨i, v0, n0, E0⟩ := x
            have e0 := oneOf_spec hone
            rw [e0] at hc hb0
            obtain ⟨v1, h1⟩ := chO_one hc
            simp only [oneO, Obj.deferred.injEq, Option.some.injEq, List.cons.injEq, Deferred.mk.injEq, Target.collected.injEq] at h1
            obtain ⟨⟨rfl, _⟩, ⟨rfl, _⟩, ⟨rfl, _⟩, _⟩ := h1
            exact ⟨v0, _, _, hb0⟩
          | none =>
            have := chO_def hc hone
            rw [← this] at hb0
            exact ⟨v, n, E, hb0⟩
        | cells c0 E0 fr0 =>
          exfalso
          simp only [chO, oneOf_cells] at hc
          split at hc
          · cases hc
          · obtain ⟨_, hc, _⟩ := hc; cases hc
        | _ => exfalso; simp [chO, oneOf, oneO] at hc
      · obtain ⟨o, hb0, hc⟩ := f.old _ _ hb hlt
        refine .inr (.inr ⟨hs, s, n, E, L, ?_, hl⟩)
        cases o with
        | deferred l =>
          cases hone : oneOf (.deferred l) with
          | some x =>
            obtain ⟨i, v0, n0, E0⟩ := x
            have e0 := oneOf_spec hone
            rw [e0] at hc
            obtain ⟨v1, h1⟩ := chO_one hc
            cases h1
          | none =>
            have := chO_def hc hone
            rw [← this] at hb0
            exact hb0
        | cells c0 E0 fr0 =>
          exfalso
          simp only [chO, oneOf_cells] at hc
          split at hc
          · cases hc
          · obtain ⟨_, hc, _⟩ := hc; cases hc
        | _ => exfalso; simp [chO, oneOf, noteO] at hc
    · exact .inr hlt
  | obj r =>
    by_cases hlt : r < w.heap.size
    · left
      obtain ⟨o, hb, hm⟩ := ho
      obtain ⟨o0, hb0, hc⟩ := f.old _ _ hb hlt
      refine ⟨o0, hb0, ?_⟩
      cases o0 with
      | map e c => trivial
      | mapIter m s n st => trivial
      | cells c0 E0 fr0 =>
        simp only [chO, oneOf_cells] at hc
        split at hc
        · subst hc; exact hm
        · obtain ⟨_, rfl, _⟩ := hc; exact hm
      | deferred l =>
        unfold chO at hc
        split at hc
        · obtain ⟨v, rfl⟩ := hc; exact hm
        · simp only at hc; subst hc; exact hm
      | _ => simp only [chO, oneOf] at hc; subst hc; exact hm
    · exact .inr hlt
  | _ => exact ho.elim
theorem Fra.rdL (f : Fra h w h1 w1 es) {l : Loc} (ho : RdL h1 l) : RdL h l ∨ ¬ LocLt w.heap.size l := by
  cases l with
  | cell ad =>
    by_cases hlt : ad.block < w.heap.size
    · left
      obtain ⟨c, E, fr, hb, hr⟩ := ho
      obtain ⟨o, hb0, hc⟩ := f.old _ _ hb hlt
      cases o with
      | cells c0 E0 fr0 =>
        by_cases hr0 : isRo c0 fr0
        · exact ⟨c0, E0, fr0, hb0, hr0⟩
        · exfalso
          simp only [chO, oneOf_cells, if_neg hr0] at hc
          obtain ⟨c', hc, hs⟩ := hc
          simp only [Obj.cells.injEq] at hc
          obtain ⟨rfl, rfl, rfl⟩ := hc
          apply hr0
          unfold isRo roF roO at hr ⊢
          rw [← hs]; exact hr
      | deferred l =>
        exfalso
        unfold chO at hc
        split at hc
        · obtain ⟨v, hc⟩ := hc; cases hc
        · cases hc
      | _ => exfalso; simp [chO, oneOf] at hc
    · exact .inr hlt
  | _ => exact ho.elim
end
end Go.Proofs.Ytojhnclkhiffkaa

/-
  What goroutines know of a trace, for the places that they hold, as it grows: by own steps, by steps at shared places, by a go statement, by the join.
-/
namespace Go.Proofs.Ytojhnclkhiffkaa
open Go.Conc
open Go.ConcN (PermW RelBy fork_knows Deaf_absent Deaf_still norel_of)
open Go.ConcR (rd wr mk stA smA g_of_ofEvents)
set_option linter.unusedVariables false

structure TP (t : Trace) (k : Nat) (h : H) : Prop where
  own : ∀ l, OwnL h l → Perm t k l
  rd : ∀ l, RdL h l → PermW t k l
structure TrI (t : Trace) (n j : Nat) : Prop where
  nr : ∀ said, ¬ Race said t
  gs : ∀ (i : Nat) (op : MemOp), t[i]? = some op → op.g ≤ j
  fresh : ∀ i x, touchAt t i = some x → LocLt n x.loc
/-- Every plain touch of these places is known; what is said of them the starter says. -/
def ShK (S : Loc → Prop) (t : Trace) (k : Nat) : Prop := ∀ i a, touchAt t i = some a → S a.loc → a.kind = .plain → Knows t k i
def ShSaid (S : Loc → Prop) (t : Trace) : Prop := ∀ (i : Nat) (op : MemOp) (a : Touch), t[i]? = some op → op.act.touch? = some a → S a.loc → a.kind = .said → op.g = 0
/-- The cells of a block. -/
def InB (b : Nat) (l : Loc) : Prop := ∃ a : Addr, l = .cell a ∧ a.block = b
theorem LocLt.le {n m : Nat} (h : n ≤ m) {l : Loc} (hl : LocLt n l) : LocLt m l := by
  cases l <;> first | exact Nat.lt_of_lt_of_le hl h | trivial
theorem TP.fra {t : Trace} {k j : Nat} {h h1 : H} {w w1 : World} {es : Array Event} (p : TP t k h) (T : TrI t w.heap.size j) (f : Fra h w h1 w1 es) : TP t k h1 := by
  refine ⟨fun l hl => ?_, fun l hl => ?_⟩
  · rcases f.ownL hl with h0 | h0
    · exact p.own l h0
    · intro i a ha e
      exact absurd (e ▸ T.fresh i a ha) h0
  · rcases f.rdL hl with h0 | h0
    · exact p.rd l h0
    · intro i a ha e
      exact absurd (e ▸ T.fresh i a ha) h0
theorem TP.sub {t : Trace} {k : Nat} {h h' : H} (p : TP t k h) (ho : ∀ l, OwnL h' l → OwnL h l) (hr : ∀ l, RdL h' l → RdL h l ∨ OwnL h l) : TP t k h' :=
  ⟨fun l hl => p.own l (ho l hl), fun l hl => (hr l hl).elim (p.rd l) fun x => .of (p.own l x)⟩

/-- Operations of one goroutine, each within what it holds, or none. -/
def WiOp (k : Nat) (h : H) (op : MemOp) : Prop := op.g = k ∧ ∀ x, op.act.touch? = some x → OwnL h x.loc ∨ (RdL h x.loc ∧ x.write = false)
theorem wi_of {k : Nat} {h : H} {es : Array Event} (he : ∀ e ∈ es, EvO h e) (fn : FuncId) (pos : String) : ∀ op ∈ MemOp.ofEvents k fn pos es, WiOp k h op := by
  intro op hop
  rw [ofEvents_eq] at hop
  obtain ⟨e, hm, rfl⟩ := Array.mem_map.1 hop
  exact ⟨rfl, fun x hx => (he e hm).touch hx⟩
section
variable {t u : Trace} {k j n n' : Nat} {h : H}
theorem TrI.own (T : TrI t n j) (p : TP t k h) (hl : ∀ l, OwnL h l ∨ RdL h l → LocLt n' l) (hn : n ≤ n') (hk : k ≤ j) (hu : ∀ op ∈ u, WiOp k h op) : TrI (t ++ u) n' j := by
  refine ⟨fun said => noRace_append (T.nr said) (fun op hop => (hu op hop).1) fun i a ha op hop b hb hc => ?_, fun i op hi => ?_, fun i x hx => ?_⟩
  · rcases (hu op hop).2 b hb with ho | ⟨hr, hw⟩
    · exact p.own _ ho i a ha hc.1
    · exact p.rd _ hr i a ha hc.1 (hc.2.2.1.resolve_right (by simp [hw]))
  · rcases getElem?_append_cases hi with ⟨_, hi'⟩ | ⟨_, hiu⟩
    · exact T.gs i op hi'
    · rw [(hu op hiu).1]; exact hk
  · obtain ⟨op, hop, hox⟩ := touch_of hx
    rcases getElem?_append_cases hop with ⟨_, hi'⟩ | ⟨_, hiu⟩
    · exact (T.fresh i x (by rw [touchAt_of hi']; exact hox)).le hn
    · exact hl _ (((hu op hiu).2 x hox).imp id And.left)
theorem TP.app (p : TP t k h) (hu : ∀ op ∈ u, op.g = k) : TP (t ++ u) k h :=
  ⟨fun l hl => (p.own l hl).app fun op hop _ _ _ => hu op hop, fun l hl => (p.rd l hl).app fun op hop _ _ _ _ => hu op hop⟩
theorem TP.other {k' : Nat} {hk : H} (p : TP t k' hk) (a : Ap h hk) (hu : ∀ op ∈ u, WiOp k h op) : TP (t ++ u) k' hk := by
  refine ⟨fun l hl => (p.own l hl).app fun op hop b hb e => ?_, fun l hl => (p.rd l hl).app fun op hop b hb e hw => ?_⟩
  · exfalso
    obtain ⟨h1, h2⟩ := a.symm.own hl
    rcases (hu op hop).2 b hb with ho | ⟨hr, _⟩
    · exact h1 (e ▸ ho)
    · exact h2 (e ▸ hr)
  · exfalso
    rcases (hu op hop).2 b hb with ho | ⟨hr, hw'⟩
    · exact (a.own ho).2 (e ▸ hl)
    · rw [hw'] at hw; cases hw
theorem ShK.own {S : Loc → Prop} {k' : Nat} (s : ShK S t k') (hS : ∀ l, S l → ¬ OwnL h l ∧ ¬ RdL h l) (hu : ∀ op ∈ u, WiOp k h op) : ShK S (t ++ u) k' := by
  intro i a ha hs hp
  obtain ⟨op, hop, hox⟩ := touch_of ha
  rcases getElem?_append_cases hop with ⟨_, hi'⟩ | ⟨_, hiu⟩
  · exact (s i a (by rw [touchAt_of hi']; exact hox) hs hp).app u
  · exfalso
    rcases (hu op hiu).2 a hox with ho | ⟨hr, _⟩
    · exact (hS _ hs).1 ho
    · exact (hS _ hs).2 hr
theorem ShSaid.own {S : Loc → Prop} (s : ShSaid S t) (hS : ∀ l, S l → ¬ OwnL h l ∧ ¬ RdL h l) (hu : ∀ op ∈ u, WiOp k h op) : ShSaid S (t ++ u) := by
  intro i op a hop hox hs hp
  rcases getElem?_append_cases hop with ⟨_, hi'⟩ | ⟨_, hiu⟩
  · exact s i op a hi' hox hs hp
  · exfalso
    rcases (hu op hiu).2 a hox with ho | ⟨hr, _⟩
    · exact (hS _ hs).1 ho
    · exact (hS _ hs).2 hr

/-- Operations of one goroutine at shared places: none plain; what is said the starter says. -/
def ShOp (S : Loc → Prop) (k : Nat) (op : MemOp) : Prop := op.g = k ∧ ∀ x, op.act.touch? = some x → S x.loc ∧ x.kind ≠ .plain ∧ (x.kind = .said → k = 0)
variable {S : Loc → Prop}
theorem TrI.sh (T : TrI t n j) (s : ShK S t k) (sd : ShSaid S t) (hl : ∀ l, S l → LocLt n l) (hk : k ≤ j) (hu : ∀ op ∈ u, ShOp S k op) : TrI (t ++ u) n j := by
  refine ⟨fun said => noRace_append (T.nr said) (fun op hop => (hu op hop).1) fun i a ha op hop b hb hc => ?_, fun i op hi => ?_, fun i x hx => ?_⟩
  · obtain ⟨hs, hnp, hsd⟩ := (hu op hop).2 b hb
    have hs' : S a.loc := by rw [hc.1]; exact hs
    rcases hc.2.2.2 with hp | hp | ⟨_, h1, h2⟩
    · exact s i a ha hs' hp
    · exact absurd hp hnp
    · obtain ⟨x, hx, hxa⟩ := touch_of ha
      have h0 := sd i x a hx hxa hs' h1
      have := knows_own hx
      rw [h0] at this
      rwa [hsd h2]
  · rcases getElem?_append_cases hi with ⟨_, hi'⟩ | ⟨_, hiu⟩
    · exact T.gs i op hi'
    · rw [(hu op hiu).1]; exact hk
  · obtain ⟨op, hop, hox⟩ := touch_of hx
    rcases getElem?_append_cases hop with ⟨_, hi'⟩ | ⟨_, hiu⟩
    · exact T.fresh i x (by rw [touchAt_of hi']; exact hox)
    · exact hl _ ((hu op hiu).2 x hox).1
theorem TP.sh {k' : Nat} {hk : H} (p : TP t k' hk) (hS : ∀ l, S l → ¬ OwnL hk l ∧ ¬ RdL hk l) (hu : ∀ op ∈ u, ShOp S k op) : TP (t ++ u) k' hk :=
  ⟨fun l hl => (p.own l hl).app fun op hop b hb e => absurd hl (hS l (e ▸ ((hu op hop).2 b hb).1)).1, fun l hl => (p.rd l hl).app fun op hop b hb e _ => absurd hl (hS l (e ▸ ((hu op hop).2 b hb).1)).2⟩
theorem ShK.sh {k' : Nat} (s : ShK S t k') (hu : ∀ op ∈ u, ShOp S k op) : ShK S (t ++ u) k' := by
  intro i a ha hs hp
  obtain ⟨op, hop, hox⟩ := touch_of ha
  rcases getElem?_append_cases hop with ⟨_, hi'⟩ | ⟨_, hiu⟩
  · exact (s i a (by rw [touchAt_of hi']; exact hox) hs hp).app u
  · exact absurd hp ((hu op hiu).2 a hox).2.1
theorem ShSaid.sh (s : ShSaid S t) (hu : ∀ op ∈ u, ShOp S k op) : ShSaid S (t ++ u) := by
  intro i op a hop hox hs hp
  rcases getElem?_append_cases hop with ⟨_, hi'⟩ | ⟨_, hiu⟩
  · exact s i op a hi' hox hs hp
  · rw [(hu op hiu).1]; exact ((hu op hiu).2 a hox).2.2 hp

/-! ### A go statement -/
variable {x y : MemOp}
theorem fork_old (hx : x.act.touch? = none) (hy : y.act.touch? = none) {i : Nat} {a : Touch} (ha : touchAt (t ++ #[x, y]) i = some a) : touchAt t i = some a := by
  obtain ⟨z, hz, hza⟩ := touch_of ha
  rcases getElem?_append_cases hz with ⟨_, hz'⟩ | ⟨_, hzu⟩
  · rw [touchAt_of hz']; exact hza
  · simp only [List.mem_toArray, List.mem_cons, List.not_mem_nil, or_false] at hzu
    rcases hzu with rfl | rfl
    · rw [hx] at hza; cases hza
    · rw [hy] at hza; cases hza
theorem TrI.fork (T : TrI t n j) (hx : x.g = 0 ∧ x.act = .go (j + 1)) (hy : y.g = j + 1 ∧ y.act = .start) : TrI (t ++ #[x, y]) n (j + 1) := by
  have tx : x.act.touch? = none := by rw [hx.2]; rfl
  have ty : y.act.touch? = none := by rw [hy.2]; rfl
  refine ⟨fun said => ?_, fun i op hi => ?_, fun i a ha => T.fresh i a (fork_old tx ty ha)⟩
  · have e : t ++ #[x, y] = (t ++ #[x]) ++ #[y] := by apply Array.ext'; simp
    rw [e]
    refine noRace_append (g := j + 1) (noRace_append (g := 0) (T.nr said) (fun op hop => by simp at hop; rw [hop]; exact hx.1) (fun i a _ op hop b hb _ => ?_)) (fun op hop => by simp at hop; rw [hop]; exact hy.1) (fun i a _ op hop b hb _ => ?_)
    · simp at hop; subst hop; rw [tx] at hb; cases hb
    · simp at hop; subst hop; rw [ty] at hb; cases hb
  · rcases getElem?_append_cases hi with ⟨_, hi'⟩ | ⟨_, hiu⟩
    · exact Nat.le_succ_of_le (T.gs i op hi')
    · simp only [List.mem_toArray, List.mem_cons, List.not_mem_nil, or_false] at hiu
      rcases hiu with rfl | rfl
      · rw [hx.1]; exact Nat.zero_le _
      · rw [hy.1]; exact Nat.le_refl _
theorem TP.fork (p : TP t 0 h) (T : TrI t n j) (hx : x.g = 0 ∧ x.act = .go (j + 1)) (hy : y.g = j + 1 ∧ y.act = .start) (h0 : Deaf t 0 = 0) : TP (t ++ #[x, y]) (j + 1) h := by
  have tx : x.act.touch? = none := by rw [hx.2]; rfl
  have ty : y.act.touch? = none := by rw [hy.2]; rfl
  have hk : Deaf t (j + 1) = 0 := Deaf_absent fun i op hi e => by have := T.gs i op hi; omega
  exact ⟨fun l hl i a ha e => fork_knows hx hy h0 hk (p.own l hl i a (fork_old tx ty ha) e), fun l hl i a ha e hw => fork_knows hx hy h0 hk (p.rd l hl i a (fork_old tx ty ha) e hw)⟩
theorem TP.forkOld {k' : Nat} {hk : H} (p : TP t k' hk) (hx : x.act.touch? = none) (hy : y.act.touch? = none) : TP (t ++ #[x, y]) k' hk :=
  ⟨fun l hl i a ha e => (p.own l hl i a (fork_old hx hy ha) e).app _, fun l hl i a ha e hw => (p.rd l hl i a (fork_old hx hy ha) e hw).app _⟩
theorem ShK.fork (s : ShK S t 0) (T : TrI t n j) (hx : x.g = 0 ∧ x.act = .go (j + 1)) (hy : y.g = j + 1 ∧ y.act = .start) (h0 : Deaf t 0 = 0) : ShK S (t ++ #[x, y]) (j + 1) := by
  have tx : x.act.touch? = none := by rw [hx.2]; rfl
  have ty : y.act.touch? = none := by rw [hy.2]; rfl
  have hk : Deaf t (j + 1) = 0 := Deaf_absent fun i op hi e => by have := T.gs i op hi; omega
  exact fun i a ha hs hp => fork_knows hx hy h0 hk (s i a (fork_old tx ty ha) hs hp)
theorem ShK.forkOld {k' : Nat} (s : ShK S t k') (hx : x.act.touch? = none) (hy : y.act.touch? = none) : ShK S (t ++ #[x, y]) k' :=
  fun i a ha hs hp => (s i a (fork_old hx hy ha) hs hp).app _
theorem ShSaid.fork (s : ShSaid S t) (hx : x.act.touch? = none) (hy : y.act.touch? = none) : ShSaid S (t ++ #[x, y]) := by
  intro i op a hop hox hs hp
  rcases getElem?_append_cases hop with ⟨_, hi'⟩ | ⟨_, hiu⟩
  · exact s i op a hi' hox hs hp
  · simp only [List.mem_toArray, List.mem_cons, List.not_mem_nil, or_false] at hiu
    rcases hiu with rfl | rfl
    · rw [hx] at hox; cases hox
    · rw [hy] at hox; cases hox
end

/-! ### A load that notices the last store -/
theorem notices {t : Trace} {a : Addr} {p : Nat} {y : MemOp} (h : LastWrite t a p) (hp : t.heard p) (hd : Deaf t y.g = 0) (hy : y.act = .access ⟨.cell a, false, true⟩) : HappensBefore (t ++ #[y]) p t.size := by
  have hlast : (t ++ #[y])[t.size]? = some y := by rw [Array.getElem?_append_right (Nat.le_refl _)]; simp
  have hlt := lt_of_act? h.1
  exact .single (.inr ⟨.atomic (a := a) hlt (by rw [act?_old hlt]; exact h.1) (by rw [act?_of hlast, hy]) (fun k sync h1 h2 => by rw [act?_old h2]; exact h.2 k sync h1), (heard_old hlt).2 hp, ⟨y.g, by rw [Trace.g?, hlast, Option.map_some], by rw [deaf_old (Nat.le_refl _)]; exact hd⟩⟩)
/-- All that was written to these blocks lies ahead of the last store to the shared cell. -/
def PubT (B : Nat → Prop) (t : Trace) (m : Addr) : Prop := ∀ i a ad, touchAt t i = some a → a.loc = .cell ad → B ad.block → a.write = true → ∃ p, LastWrite t m p ∧ t.heard p ∧ Before t i p
theorem PubT.app {B : Nat → Prop} {t u : Trace} {m : Addr} (q : PubT B t m) (hu : ∀ op ∈ u, ∀ x, op.act.touch? = some x → x.write = true → ∀ ad, x.loc = .cell ad → ad ≠ m ∧ ¬ B ad.block) : PubT B (t ++ u) m := by
  intro i a ad ha hl hb hw
  obtain ⟨op, hop, hox⟩ := touch_of ha
  rcases getElem?_append_cases hop with ⟨_, hi'⟩ | ⟨_, hiu⟩
  · obtain ⟨p, h1, h2, h3⟩ := q i a ad (by rw [touchAt_of hi']; exact hox) hl hb hw
    refine ⟨p, h1.app fun op hop sync e => ?_, (heard_old (lt_of_act? h1.1)).2 h2, h3.app u⟩
    have := hu op hop ⟨.cell m, true, if sync then .atomic else .plain⟩ (by rw [e]; rfl) rfl m rfl
    exact this.1 rfl
  · exact absurd hb (hu op hiu a hox hw ad hl).2

/-! ### The release, the join -/
/-- Goroutine k has said its release at r; behind it, it touches the group's cells alone. -/
structure Rel (Wg : Nat) (t : Trace) (k r : Nat) : Prop where
  rel : RelBy (stA Wg) t k r
  only : ∀ i x, r < i → t.g? i = some k → touchAt t i = some x → InB Wg x.loc
theorem Rel.app {Wg k r : Nat} {t u : Trace} (R : Rel Wg t k r) (h : RelBy (stA Wg) (t ++ u) k r) (hu : ∀ op ∈ u, op.g = k → ∀ x, op.act.touch? = some x → InB Wg x.loc) : Rel Wg (t ++ u) k r := by
  refine ⟨h, fun i x hi hg hx => ?_⟩
  obtain ⟨op, hop, hox⟩ := touch_of hx
  rcases getElem?_append_cases hop with ⟨hlt, hi'⟩ | ⟨_, hiu⟩
  · exact R.only i x hi (by rw [← g?_old (u := u) hlt]; exact hg) (by rw [touchAt_of hi']; exact hox)
  · refine hu op hiu ?_ x hox
    simp only [Trace.g?, hop, Option.map_some, Option.some.injEq] at hg
    exact hg
/-- Behind the join the starter knows all but what was done at the group's cells. -/
theorem join_knows {Wg j n : Nat} {t : Trace} {y : MemOp} (T : TrI t n j) (hr : ∀ k, 1 ≤ k → k ≤ j → ∃ r, Rel Wg t k r) (hn : NoRelease (stA Wg) t) (hd : Deaf t 0 = 0) (hy : y.g = 0 ∧ y.act = .mark (.acquire (stA Wg))) {l : Loc} (hl : ¬ InB Wg l) : Perm (t ++ #[y]) 0 l := by
  intro i a ha e
  obtain ⟨op, hop, hox⟩ := touch_of ha
  have hlast : (t ++ #[y])[t.size]? = some y := by rw [Array.getElem?_append_right (Nat.le_refl _)]; simp
  rcases getElem?_append_cases hop with ⟨hlt, hi'⟩ | ⟨_, hiu⟩
  · by_cases h0 : op.g = 0
    · have := knows_own hop
      rwa [h0] at this
    · obtain ⟨r, R⟩ := hr op.g (by omega) (T.gs i op hi')
      have hle : i ≤ r := Nat.le_of_not_lt fun hri => hl (e ▸ R.only i a hri (by simp [Trace.g?, hi']) (by rw [touchAt_of hi']; exact hox))
      have hrt := lt_of_act? R.rel.act
      have edge : HappensBefore (t ++ #[y]) r t.size := .single (.inr ⟨.marked hrt (.inr (by rw [act?_old hrt]; exact R.rel.act)) (by rw [act?_of hlast, hy.2]) (fun k _ h2 => by rw [act?_old h2]; exact hn k), (heard_old hrt).2 R.rel.heard, ⟨0, by rw [Trace.g?, hlast, Option.map_some, hy.1], by rw [deaf_old (Nat.le_refl _)]; exact hd⟩⟩)
      refine ⟨t.size, y, hlast, hy.1, .inr ?_⟩
      rcases Nat.lt_or_ge i r with hir | hge
      · exact .trans (.single (.inl ⟨hir, op.g, by rw [Trace.g?, hop, Option.map_some], by rw [g?_old hrt]; exact R.rel.g⟩)) edge
      · obtain rfl : i = r := by omega
        exact edge
  · simp at hiu
    subst hiu
    rw [hy.2] at hox; simp [MemAct.touch?] at hox
end Go.Proofs.Ytojhnclkhiffkaa

