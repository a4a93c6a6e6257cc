/-
  Lowered functions, written by a program (wip/tools/low.py) and checked by the kernel.
-/
import Derived.Test.YtojhnclkhiffkaaKD
import Derived.Test.YtojhnclkhiffkaaChecked
import Derived.KernelRfl
import Derived.Test.YtojhnclkhiffkaaC0a
namespace Go.Proofs.Ytojhnclkhiffkaa
set_option maxRecDepth 100000
@[reducible] def c87_d0 : DT := .q 0 ⟨(some 3), none, (.mv (.tmp 0))⟩ (.q 1 ⟨(some 4), none, (.nilck (.tmp 3))⟩ (.q 2 ⟨(some 5), none, (.ld (.tmp 4))⟩ (.q 3 ⟨(some 6), none, (.mv (.tmp 0))⟩ (.q 4 ⟨(some 7), none, (.nilck (.tmp 6))⟩ (.q 5 ⟨(some 8), none, (.ld (.tmp 7))⟩ (.q 6 ⟨(some 9), none, (.bin .shl .other (.tmp 8) (.const (.int .u64 13)))⟩ (.q 7 ⟨(some 10), none, (.bin .xor .other (.tmp 5) (.tmp 9))⟩ (.q 8 ⟨(some 11), none, (.nilck (.tmp 3))⟩ (.e 9 [] ⟨none, none, (.st (.tmp 11) (.tmp 10))⟩ (.done))))))))))
@[reducible] def c87_d1 : DT := .q 0 ⟨(some 12), none, (.mv (.tmp 0))⟩ (.q 1 ⟨(some 13), none, (.nilck (.tmp 12))⟩ (.q 2 ⟨(some 14), none, (.ld (.tmp 13))⟩ (.q 3 ⟨(some 15), none, (.mv (.tmp 0))⟩ (.q 4 ⟨(some 16), none, (.nilck (.tmp 15))⟩ (.q 5 ⟨(some 17), none, (.ld (.tmp 16))⟩ (.q 6 ⟨(some 18), none, (.bin .shr .other (.tmp 17) (.const (.int .u64 7)))⟩ (.q 7 ⟨(some 19), none, (.bin .xor .other (.tmp 14) (.tmp 18))⟩ (.q 8 ⟨(some 20), none, (.nilck (.tmp 12))⟩ (.e 9 [] ⟨none, none, (.st (.tmp 20) (.tmp 19))⟩ (.done))))))))))
@[reducible] def c87_d2 : DT := .q 0 ⟨(some 21), none, (.mv (.tmp 0))⟩ (.q 1 ⟨(some 22), none, (.nilck (.tmp 21))⟩ (.q 2 ⟨(some 23), none, (.ld (.tmp 22))⟩ (.q 3 ⟨(some 24), none, (.mv (.tmp 0))⟩ (.q 4 ⟨(some 25), none, (.nilck (.tmp 24))⟩ (.q 5 ⟨(some 26), none, (.ld (.tmp 25))⟩ (.q 6 ⟨(some 27), none, (.bin .shl .other (.tmp 26) (.const (.int .u64 17)))⟩ (.q 7 ⟨(some 28), none, (.bin .xor .other (.tmp 23) (.tmp 27))⟩ (.q 8 ⟨(some 29), none, (.nilck (.tmp 21))⟩ (.e 9 [] ⟨none, none, (.st (.tmp 29) (.tmp 28))⟩ (.done))))))))))
@[reducible] def c87_s3 : LC := (.seq (.ops [⟨(some 30), none, (.mv (.tmp 0))⟩, ⟨(some 31), none, (.nilck (.tmp 30))⟩, ⟨(some 32), none, (.ld (.tmp 31))⟩, ⟨(some 2), none, (.mv (.tmp 32))⟩]) [2] .ret)
@[reducible] def c87_s2 : LC := (.seq (.draw c87_d2) [0] c87_s3)
@[reducible] def c87_s1 : LC := (.seq (.draw c87_d1) [0] c87_s2)
@[reducible] def c87_s0 : LC := (.seq (.draw c87_d0) [0] c87_s1)
@[reducible] def c87 : LC := (.seq (.ops [⟨(some 2), none, (.mv (.const (.int .u64 0)))⟩]) [0] c87_s0)
theorem c87_low : lowC Try.prog ⟨0, 33⟩ (.seq .leaf [0] (.seq (.draw [[], [0], [1], [], [3], [4], [5], [2, 6], [0], [0, 1, 2, 3, 4, 5, 6, 7, 8]] (.q 0 (.q 1 (.q 2 (.q 3 (.q 4 (.q 5 (.q 6 (.q 7 (.q 8 (.e 9 [] (.done)))))))))))) [0] (.seq (.draw [[], [0], [1], [], [3], [4], [5], [2, 6], [0], [0, 1, 2, 3, 4, 5, 6, 7, 8]] (.q 0 (.q 1 (.q 2 (.q 3 (.q 4 (.q 5 (.q 6 (.q 7 (.q 8 (.e 9 [] (.done)))))))))))) [0] (.seq (.draw [[], [0], [1], [], [3], [4], [5], [2, 6], [0], [0, 1, 2, 3, 4, 5, 6, 7, 8]] (.q 0 (.q 1 (.q 2 (.q 3 (.q 4 (.q 5 (.q 6 (.q 7 (.q 8 (.e 9 [] (.done)))))))))))) [0] (.seq .leaf [2] .leaf))))) (Try.f87.body.getD .skip) = c87 := by kernel_rfl
theorem c87_ce {args : List Value} (ha : args.length ≤ 33) {h : H} {R : Ending → H → Prop} (hv : vc Try.prog c87 (retQ [2] R) (argEnv args 0) h) : CallsE Try.prog 87 args.toArray h R :=
  callsE_of (res := [2]) Try.func87 rfl rfl rfl c87_low ha hv
theorem c87_ok {args : List Value} (ha : args.length ≤ 33) {h : H} {R : Value → H → Prop} (hv : vc Try.prog c87 (retQ [2] (okR R)) (argEnv args 0) h) : Ok Try.prog 87 args.toArray h R :=
  ok_of (res := [2]) Try.func87 rfl rfl rfl c87_low ha hv

@[reducible] def c88_s0 : LC := (.seq (.ops [⟨(some 9), none, (.mv (.tmp 0))⟩, ⟨(some 10), none, (.mv (.tmp 1))⟩, ⟨(some 11), none, (.bin .sub .other (.tmp 10) (.const (.int .i64 1)))⟩, ⟨(some 12), none, (.mv (.tmp 1))⟩, ⟨(some 13), none, (.mv (.tmp 1))⟩, ⟨(some 14), none, (.bin .add .other (.tmp 13) (.const (.int .i64 1)))⟩, ⟨(some 15), none, (.mv (.tmp 2))⟩, ⟨(some 16), none, (.mv (.tmp 3))⟩, ⟨(some 17), none, (.call 89 [(.tmp 9), (.tmp 11), (.tmp 12), (.tmp 14), (.tmp 15), (.tmp 16)])⟩, ⟨(some 8), none, (.mv (.tmp 17))⟩]) [8] .ret)
@[reducible] def c88 : LC := (.seq (.ops [⟨(some 8), none, (.mv (.const (.int .i64 0)))⟩]) [0, 1, 2, 3] c88_s0)
theorem c88_low : lowC Try.prog ⟨0, 18⟩ (.seq .leaf [0, 1, 2, 3] (.seq .leaf [8] .leaf)) (Try.f88.body.getD .skip) = c88 := by kernel_rfl
theorem c88_ce {args : List Value} (ha : args.length ≤ 18) {h : H} {R : Ending → H → Prop} (hv : vc Try.prog c88 (retQ [8] R) (argEnv args 0) h) : CallsE Try.prog 88 args.toArray h R :=
  callsE_of (res := [8]) Try.func88 rfl rfl rfl c88_low ha hv
theorem c88_ok {args : List Value} (ha : args.length ≤ 18) {h : H} {R : Value → H → Prop} (hv : vc Try.prog c88 (retQ [8] (okR R)) (argEnv args 0) h) : Ok Try.prog 88 args.toArray h R :=
  ok_of (res := [8]) Try.func88 rfl rfl rfl c88_low ha hv

@[reducible] def c89_s3 : LC := (.seq (.ops [⟨(some 40), none, (.mv (.tmp 2))⟩, ⟨(some 12), none, (.mv (.tmp 40))⟩]) [12] .ret)
@[reducible] def c89_s2 : LC := (.seq (.ops [⟨(some 32), none, (.mv (.tmp 0))⟩, ⟨(some 33), none, (.mv (.tmp 1))⟩, ⟨(some 34), none, (.mv (.tmp 2))⟩, ⟨(some 35), none, (.mv (.tmp 4))⟩, ⟨(some 36), none, (.mv (.tmp 5))⟩, ⟨(some 37), none, (.call 90 [(.tmp 32), (.tmp 33), (.tmp 34), (.tmp 35), (.tmp 36)])⟩, ⟨(some 31), none, (.mv (.tmp 37))⟩, ⟨(some 38), none, (.ext (.tmp 31) 0)⟩, ⟨(some 39), none, (.ext (.tmp 31) 1)⟩, ⟨(some 1), none, (.mv (.tmp 38))⟩, ⟨(some 2), none, (.mv (.tmp 39))⟩]) [2] c89_s3)
@[reducible] def c89_s1 : LC := (.seq (.ops [⟨(some 23), none, (.mv (.tmp 0))⟩, ⟨(some 24), none, (.mv (.tmp 2))⟩, ⟨(some 25), none, (.mv (.tmp 3))⟩, ⟨(some 26), none, (.mv (.tmp 4))⟩, ⟨(some 27), none, (.mv (.tmp 5))⟩, ⟨(some 28), none, (.call 90 [(.tmp 23), (.tmp 24), (.tmp 25), (.tmp 26), (.tmp 27)])⟩, ⟨(some 22), none, (.mv (.tmp 28))⟩, ⟨(some 29), none, (.ext (.tmp 22) 0)⟩, ⟨(some 30), none, (.ext (.tmp 22) 1)⟩, ⟨(some 2), none, (.mv (.tmp 29))⟩, ⟨(some 3), none, (.mv (.tmp 30))⟩]) [0, 1, 2, 4, 5] c89_s2)
@[reducible] def c89_s0 : LC := (.seq (.ops [⟨(some 14), none, (.mv (.tmp 0))⟩, ⟨(some 15), none, (.mv (.tmp 1))⟩, ⟨(some 16), none, (.mv (.tmp 2))⟩, ⟨(some 17), none, (.mv (.tmp 4))⟩, ⟨(some 18), none, (.mv (.tmp 5))⟩, ⟨(some 19), none, (.call 90 [(.tmp 14), (.tmp 15), (.tmp 16), (.tmp 17), (.tmp 18)])⟩, ⟨(some 13), none, (.mv (.tmp 19))⟩, ⟨(some 20), none, (.ext (.tmp 13) 0)⟩, ⟨(some 21), none, (.ext (.tmp 13) 1)⟩, ⟨(some 1), none, (.mv (.tmp 20))⟩, ⟨(some 2), none, (.mv (.tmp 21))⟩]) [0, 1, 2, 3, 4, 5] c89_s1)
@[reducible] def c89 : LC := (.seq (.ops [⟨(some 12), none, (.mv (.const (.int .i64 0)))⟩]) [0, 1, 2, 3, 4, 5] c89_s0)
theorem c89_low : lowC Try.prog ⟨0, 41⟩ (.seq .leaf [0, 1, 2, 3, 4, 5] (.seq .leaf [0, 1, 2, 3, 4, 5] (.seq .leaf [0, 1, 2, 4, 5] (.seq .leaf [2] (.seq .leaf [12] .leaf))))) (Try.f89.body.getD .skip) = c89 := by kernel_rfl
theorem c89_ce {args : List Value} (ha : args.length ≤ 41) {h : H} {R : Ending → H → Prop} (hv : vc Try.prog c89 (retQ [12] R) (argEnv args 0) h) : CallsE Try.prog 89 args.toArray h R :=
  callsE_of (res := [12]) Try.func89 rfl rfl rfl c89_low ha hv
theorem c89_ok {args : List Value} (ha : args.length ≤ 41) {h : H} {R : Value → H → Prop} (hv : vc Try.prog c89 (retQ [12] (okR R)) (argEnv args 0) h) : Ok Try.prog 89 args.toArray h R :=
  ok_of (res := [12]) Try.func89 rfl rfl rfl c89_low ha hv

@[reducible] def c90_d0 : DT := .q 0 ⟨(some 12), none, (.mv (.tmp 4))⟩ (.q 1 ⟨(some 13), none, (.mv (.tmp 0))⟩ (.q 2 ⟨(some 14), none, (.mv (.tmp 2))⟩ (.q 3 ⟨(some 15), none, (.idx 2 (.tmp 13) (.tmp 14))⟩ (.q 4 ⟨(some 16), none, (.ldn 2 (.tmp 15))⟩ (.q 5 ⟨(some 17), none, (.mv (.tmp 0))⟩ (.q 6 ⟨(some 18), none, (.mv (.tmp 1))⟩ (.q 7 ⟨(some 19), none, (.idx 2 (.tmp 17) (.tmp 18))⟩ (.q 8 ⟨(some 20), none, (.ldn 2 (.tmp 19))⟩ (.e 9 [] ⟨(some 21), none, (.callv (.tmp 12) [(.tmp 16), (.tmp 20)])⟩ (.q 10 ⟨(some 22), none, (.bin .lss .other (.tmp 21) (.const (.int .i64 0)))⟩ (.done)))))))))))
@[reducible] def c90_s1 : LC := (.seq (.ops [⟨(some 28), none, (.mv (.tmp 2))⟩, ⟨(some 29), none, (.mv (.tmp 1))⟩, ⟨(some 10), none, (.mv (.tmp 28))⟩, ⟨(some 11), none, (.mv (.tmp 29))⟩]) [10, 11] .ret)
@[reducible] def c90_t0 : LC := (.seq (.ops [⟨(some 23), none, (.mv (.tmp 3))⟩, ⟨(some 24), none, (.nilck (.tmp 23))⟩, ⟨(some 25), none, (.ld (.tmp 24))⟩, ⟨(some 26), none, (.bin .add .other (.tmp 25) (.const (.int .i64 1)))⟩, ⟨(some 27), none, (.nilck (.tmp 23))⟩, ⟨none, none, (.st (.tmp 27) (.tmp 26))⟩]) [1, 2] c90_s1)
@[reducible] def c90_s2 : LC := (.seq (.ops [⟨(some 30), none, (.mv (.tmp 1))⟩, ⟨(some 31), none, (.mv (.tmp 2))⟩, ⟨(some 10), none, (.mv (.tmp 30))⟩, ⟨(some 11), none, (.mv (.tmp 31))⟩]) [10, 11] .ret)
@[reducible] def c90_s0 : LC := (.seq (.seq (.draw c90_d0) [1, 2, 3, 22] (.cond (.tmp 22) c90_t0 .skip)) [1, 2] c90_s2)
@[reducible] def c90 : LC := (.seq (.ops [⟨(some 10), none, (.mv (.const (.int .i64 0)))⟩, ⟨(some 11), none, (.mv (.const (.int .i64 0)))⟩]) [0, 1, 2, 3, 4] c90_s0)
theorem c90_low : lowC Try.prog ⟨0, 32⟩ (.seq .leaf [0, 1, 2, 3, 4] (.seq (.seq (.draw [[], [], [], [1, 2], [1, 2, 3], [], [], [5, 6], [5, 6, 7], [0, 1, 2, 3, 4, 5, 6, 7, 8], [9]] (.q 0 (.q 1 (.q 2 (.q 3 (.q 4 (.q 5 (.q 6 (.q 7 (.q 8 (.e 9 [] (.q 10 (.done))))))))))))) [1, 2, 3, 22] (.cond (.seq .leaf [1, 2] (.seq .leaf [10, 11] .leaf)) .leaf)) [1, 2] (.seq .leaf [10, 11] .leaf))) (Try.f90.body.getD .skip) = c90 := by kernel_rfl
theorem c90_ce {args : List Value} (ha : args.length ≤ 32) {h : H} {R : Ending → H → Prop} (hv : vc Try.prog c90 (retQ [10, 11] R) (argEnv args 0) h) : CallsE Try.prog 90 args.toArray h R :=
  callsE_of (res := [10, 11]) Try.func90 rfl rfl rfl c90_low ha hv
theorem c90_ok {args : List Value} (ha : args.length ≤ 32) {h : H} {R : Value → H → Prop} (hv : vc Try.prog c90 (retQ [10, 11] (okR R)) (argEnv args 0) h) : Ok Try.prog 90 args.toArray h R :=
  ok_of (res := [10, 11]) Try.func90 rfl rfl rfl c90_low ha hv

end Go.Proofs.Ytojhnclkhiffkaa
