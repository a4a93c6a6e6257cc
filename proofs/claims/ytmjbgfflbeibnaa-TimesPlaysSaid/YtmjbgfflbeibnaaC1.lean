/-
  Lowered functions, written by a program (wip/tools/low.py) and checked by the kernel.
-/
import Derived.Test.YtmjbgfflbeibnaaKD
import Derived.Test.YtmjbgfflbeibnaaChecked
import Derived.KernelRfl
import Derived.Test.YtmjbgfflbeibnaaC0a
namespace Go.Proofs.Ytmjbgfflbeibnaa
set_option maxRecDepth 100000
@[reducible] def c57_t0 : LC := (.seq (.ops [⟨(some 4), none, (.mv (.const (.int .i64 4)))⟩]) [4] .ret)
@[reducible] def c57_t1 : LC := (.ops [⟨(some 40), none, (.mv (.tmp 5))⟩, ⟨(some 41), none, (.mv (.tmp 0))⟩, ⟨(some 42), none, (.nilck (.tmp 41))⟩, ⟨(some 43), none, (.lea 2 (.tmp 42))⟩, ⟨(some 44), none, (.ld (.tmp 43))⟩, ⟨(some 45), none, (.mv (.tmp 6))⟩, ⟨(some 46), none, (.idx 2 (.tmp 44) (.tmp 45))⟩, ⟨(some 47), none, (.ldn 2 (.tmp 46))⟩, ⟨(some 48), none, (.lit 50 1 #[(.int .i64 0), (.int .i64 0)] [(0, 2, (.tmp 47))])⟩, ⟨(some 49), none, (.app 50 2 16 #[(.int .i64 0), (.int .i64 0)] (.tmp 40) (.tmp 48))⟩, ⟨(some 5), none, (.mv (.tmp 49))⟩])
@[reducible] def c57_s5 : LC := (.ops [⟨(some 28), none, (.mv (.tmp 6))⟩, ⟨(some 29), none, (.bin .add .other (.tmp 28) (.const (.int .i64 1)))⟩, ⟨(some 6), none, (.mv (.tmp 29))⟩])
@[reducible] def c57_s4 : LC := (.seq (.block 1 (.seq (.ops [⟨(some 30), none, (.mv (.tmp 0))⟩, ⟨(some 31), none, (.nilck (.tmp 30))⟩, ⟨(some 32), none, (.lea 2 (.tmp 31))⟩, ⟨(some 33), none, (.ld (.tmp 32))⟩, ⟨(some 34), none, (.mv (.tmp 6))⟩, ⟨(some 35), none, (.idx 2 (.tmp 33) (.tmp 34))⟩, ⟨(some 36), none, (.lea 0 (.tmp 35))⟩, ⟨(some 37), none, (.ld (.tmp 36))⟩, ⟨(some 38), none, (.mv (.tmp 1))⟩, ⟨(some 39), none, (.bin .lss .other (.tmp 37) (.tmp 38))⟩]) [0, 1, 5, 6, 39] (.cond (.tmp 39) c57_t1 .skip))) [0, 1, 5, 6] c57_s5)
@[reducible] def c57_b0 : LC := (.seq (.seq (.ops [⟨(some 21), none, (.mv (.tmp 6))⟩, ⟨(some 22), none, (.mv (.tmp 0))⟩, ⟨(some 23), none, (.nilck (.tmp 22))⟩, ⟨(some 24), none, (.lea 2 (.tmp 23))⟩, ⟨(some 25), none, (.ld (.tmp 24))⟩, ⟨(some 26), none, (.lenl (.tmp 25))⟩, ⟨(some 27), none, (.bin .lss .other (.tmp 21) (.tmp 26))⟩]) [0, 1, 5, 6, 27] (.cond (.tmp 27) .skip (.exit 0))) [0, 1, 5, 6] c57_s4)
@[reducible] def c57_l0 : LC := .loop [5, 6] [0, 1] c57_b0
@[reducible] def c57_s3 : LC := (.block 0 c57_l0)
@[reducible] def c57_s8 : LC := (.seq (.ops [⟨(some 4), none, (.mv (.const (.int .i64 0)))⟩]) [4] .ret)
@[reducible] def c57_s7 : LC := (.seq (.ops [⟨(some 54), none, (.mv (.tmp 0))⟩, ⟨(some 55), none, (.mv (.tmp 1))⟩, ⟨(some 56), none, (.nilck (.tmp 54))⟩, ⟨(some 57), none, (.lea 1 (.tmp 56))⟩, ⟨none, none, (.st (.tmp 57) (.tmp 55))⟩]) [] c57_s8)
@[reducible] def c57_s6 : LC := (.seq (.ops [⟨(some 50), none, (.mv (.tmp 0))⟩, ⟨(some 51), none, (.mv (.tmp 5))⟩, ⟨(some 52), none, (.nilck (.tmp 50))⟩, ⟨(some 53), none, (.lea 2 (.tmp 52))⟩, ⟨none, none, (.st (.tmp 53) (.tmp 51))⟩]) [0, 1] c57_s7)
@[reducible] def c57_s2 : LC := (.seq (.seq (.ops [⟨(some 6), none, (.mv (.const (.int .i64 0)))⟩]) [0, 1, 5, 6] c57_s3) [0, 1, 5] c57_s6)
@[reducible] def c57_s1 : LC := (.seq (.ops [⟨(some 5), none, (.mv (.const (.slice none 0 0)))⟩]) [0, 1, 5] c57_s2)
@[reducible] def c57_s0 : LC := (.seq (.seq (.ops [⟨(some 7), none, (.mv (.tmp 1))⟩, ⟨(some 8), none, (.mv (.tmp 0))⟩, ⟨(some 9), none, (.nilck (.tmp 8))⟩, ⟨(some 10), none, (.lea 0 (.tmp 9))⟩, ⟨(some 11), none, (.ld (.tmp 10))⟩, ⟨(some 12), none, (.bin .lss .other (.tmp 7) (.tmp 11))⟩, ⟨(some 13), none, (.mv (.tmp 12))⟩, ⟨(some 14), (some (13, false)), (.mv (.tmp 1))⟩, ⟨(some 15), (some (13, false)), (.mv (.tmp 0))⟩, ⟨(some 16), (some (13, false)), (.nilck (.tmp 15))⟩, ⟨(some 17), (some (13, false)), (.lea 1 (.tmp 16))⟩, ⟨(some 18), (some (13, false)), (.ld (.tmp 17))⟩, ⟨(some 19), (some (13, false)), (.bin .gtr .other (.tmp 14) (.tmp 18))⟩, ⟨(some 20), none, (.pick (.tmp 13) (.const (.bool true)) (.tmp 19))⟩]) [0, 1, 20] (.cond (.tmp 20) c57_t0 .skip)) [0, 1] c57_s1)
@[reducible] def c57 : LC := (.seq (.ops [⟨(some 4), none, (.mv (.const (.int .i64 0)))⟩]) [0, 1] c57_s0)
theorem c57_low : lowC Try.prog ⟨0, 58⟩ (.seq .leaf [0, 1] (.seq (.seq .leaf [0, 1, 20] (.cond (.seq .leaf [4] .leaf) .leaf)) [0, 1] (.seq .leaf [0, 1, 5] (.seq (.seq .leaf [0, 1, 5, 6] (.block (.loop [5, 6] [0, 1] (.seq (.seq .leaf [0, 1, 5, 6, 27] (.cond .leaf .leaf)) [0, 1, 5, 6] (.seq (.block (.seq .leaf [0, 1, 5, 6, 39] (.cond .leaf .leaf))) [0, 1, 5, 6] .leaf))))) [0, 1, 5] (.seq .leaf [0, 1] (.seq .leaf [] (.seq .leaf [4] .leaf))))))) (Try.f57.body.getD .skip) = c57 := by kernel_rfl
theorem c57_ce {args : List Value} (ha : args.length ≤ 58) {h : H} {R : Ending → H → Prop} (hv : vc Try.prog c57 (retQ [4] R) (argEnv args 0) h) : CallsE Try.prog 57 args.toArray h R :=
  callsE_of (res := [4]) Try.func57 rfl rfl rfl c57_low ha hv
theorem c57_ok {args : List Value} (ha : args.length ≤ 58) {h : H} {R : Value → H → Prop} (hv : vc Try.prog c57 (retQ [4] (okR R)) (argEnv args 0) h) : Ok Try.prog 57 args.toArray h R :=
  ok_of (res := [4]) Try.func57 rfl rfl rfl c57_low ha hv

@[reducible] def c58_t0 : LC := (.seq (.ops [⟨(some 23), none, (.mv (.tmp 9))⟩, ⟨(some 24), none, (.bin .eql .ptr (.tmp 23) (.const (.pointer none)))⟩, ⟨(some 25), none, (.mv (.tmp 24))⟩, ⟨(some 26), (some (25, true)), (.mv (.tmp 10))⟩, ⟨(some 27), (some (25, true)), (.call 10 [(.tmp 26)])⟩, ⟨(some 28), (some (25, true)), (.bin .eql .other (.tmp 27) (.const (.int .i64 2)))⟩, ⟨(some 29), none, (.pick (.tmp 25) (.tmp 28) (.const (.bool false)))⟩, ⟨(some 30), none, (.mv (.tmp 29))⟩, ⟨(some 31), (some (30, true)), (.mv (.tmp 0))⟩, ⟨(some 32), (some (30, true)), (.call 23 [(.tmp 31), (.const (.pointer none))])⟩, ⟨(some 33), (some (30, true)), (.call 10 [(.tmp 32)])⟩, ⟨(some 34), (some (30, true)), (.bin .eql .other (.tmp 33) (.const (.int .i64 1)))⟩, ⟨(some 35), none, (.pick (.tmp 30) (.tmp 34) (.const (.bool false)))⟩, ⟨(some 8), none, (.mv (.tmp 35))⟩]) [8] .ret)
@[reducible] def c58_t1 : LC := (.seq (.ops [⟨(some 8), none, (.mv (.const (.bool false)))⟩]) [8] .ret)
@[reducible] def c58_t3 : LC := (.seq (.ops [⟨(some 8), none, (.mv (.const (.bool false)))⟩]) [8] .ret)
@[reducible] def c58_t2 : LC := (.seq (.ops [⟨(some 49), none, (.mv (.tmp 9))⟩, ⟨(some 50), none, (.mv (.tmp 3))⟩, ⟨(some 51), none, (.call 15 [(.tmp 49), (.tmp 50)])⟩, ⟨(some 52), none, (.call 10 [(.tmp 51)])⟩, ⟨(some 53), none, (.mv (.tmp 11))⟩, ⟨(some 54), none, (.mv (.tmp 3))⟩, ⟨(some 55), none, (.call 54 [(.tmp 53), (.tmp 54)])⟩, ⟨(some 56), none, (.bin .neq .other (.tmp 52) (.tmp 55))⟩]) [0, 1, 9, 11, 56] (.cond (.tmp 56) c58_t3 .skip))
@[reducible] def c58_s5 : LC := (.seq (.ops [⟨(some 57), none, (.mv (.tmp 0))⟩, ⟨(some 58), none, (.mv (.tmp 9))⟩, ⟨(some 59), none, (.call 23 [(.tmp 57), (.tmp 58)])⟩, ⟨(some 60), none, (.call 10 [(.tmp 59)])⟩, ⟨(some 61), none, (.mv (.tmp 1))⟩, ⟨(some 62), none, (.mv (.tmp 11))⟩, ⟨(some 63), none, (.call 60 [(.tmp 61), (.tmp 62)])⟩, ⟨(some 64), none, (.bin .eql .other (.tmp 60) (.tmp 63))⟩, ⟨(some 65), none, (.mv (.tmp 64))⟩, ⟨(some 66), (some (65, true)), (.mv (.tmp 9))⟩, ⟨(some 67), (some (65, true)), (.mv (.tmp 11))⟩, ⟨(some 68), (some (65, true)), (.call 11 [(.tmp 66), (.tmp 67)])⟩, ⟨(some 69), none, (.pick (.tmp 65) (.tmp 68) (.const (.bool false)))⟩, ⟨(some 8), none, (.mv (.tmp 69))⟩]) [8] .ret)
@[reducible] def c58_s4 : LC := (.seq (.seq (.ops [⟨(some 47), none, (.mv (.tmp 3))⟩, ⟨(some 48), none, (.call 13 [(.tmp 47)])⟩]) [0, 1, 3, 9, 11, 48] (.cond (.tmp 48) c58_t2 .skip)) [0, 1, 9, 11] c58_s5)
@[reducible] def c58_s3 : LC := (.seq (.ops [⟨(some 43), none, (.mv (.tmp 2))⟩, ⟨(some 44), none, (.mv (.tmp 2))⟩, ⟨(some 45), none, (.agg #[(.int .i64 0), (.int .i64 0), (.slice none 0 0)] [(0, 1, (.tmp 43)), (1, 1, (.tmp 44))])⟩, ⟨(some 46), none, (.box 59 (.tmp 45))⟩, ⟨(some 11), none, (.mv (.tmp 46))⟩]) [0, 1, 3, 9, 11] c58_s4)
@[reducible] def c58_s2 : LC := (.seq (.seq (.ops [⟨(some 36), none, (.mv (.tmp 9))⟩, ⟨(some 37), none, (.bin .eql .ptr (.tmp 36) (.const (.pointer none)))⟩, ⟨(some 38), none, (.mv (.tmp 37))⟩, ⟨(some 39), (some (38, false)), (.mv (.tmp 10))⟩, ⟨(some 40), (some (38, false)), (.call 10 [(.tmp 39)])⟩, ⟨(some 41), (some (38, false)), (.bin .neq .other (.tmp 40) (.const (.int .i64 0)))⟩, ⟨(some 42), none, (.pick (.tmp 38) (.const (.bool true)) (.tmp 41))⟩]) [0, 1, 2, 3, 9, 42] (.cond (.tmp 42) c58_t1 .skip)) [0, 1, 2, 3, 9] c58_s3)
@[reducible] def c58_s1 : LC := (.seq (.seq (.ops [⟨(some 17), none, (.mv (.tmp 2))⟩, ⟨(some 18), none, (.bin .lss .other (.tmp 17) (.const (.int .i64 0)))⟩, ⟨(some 19), none, (.mv (.tmp 18))⟩, ⟨(some 20), (some (19, false)), (.mv (.tmp 2))⟩, ⟨(some 21), (some (19, false)), (.bin .gtr .other (.tmp 20) (.const (.int .i64 9007199254740992)))⟩, ⟨(some 22), none, (.pick (.tmp 19) (.const (.bool true)) (.tmp 21))⟩]) [0, 1, 2, 3, 9, 10, 22] (.cond (.tmp 22) c58_t0 .skip)) [0, 1, 2, 3, 9, 10] c58_s2)
@[reducible] def c58_s0 : LC := (.seq (.ops [⟨(some 13), none, (.mv (.tmp 2))⟩, ⟨(some 14), none, (.call 14 [(.tmp 13)])⟩, ⟨(some 12), none, (.mv (.tmp 14))⟩, ⟨(some 15), none, (.ext (.tmp 12) 0)⟩, ⟨(some 16), none, (.ext (.tmp 12) 1)⟩, ⟨(some 9), none, (.mv (.tmp 15))⟩, ⟨(some 10), none, (.mv (.tmp 16))⟩]) [0, 1, 2, 3, 9, 10] c58_s1)
@[reducible] def c58 : LC := (.seq (.ops [⟨(some 8), none, (.mv (.const (.bool false)))⟩]) [0, 1, 2, 3] c58_s0)
theorem c58_low : lowC Try.prog ⟨0, 70⟩ (.seq .leaf [0, 1, 2, 3] (.seq .leaf [0, 1, 2, 3, 9, 10] (.seq (.seq .leaf [0, 1, 2, 3, 9, 10, 22] (.cond (.seq .leaf [8] .leaf) .leaf)) [0, 1, 2, 3, 9, 10] (.seq (.seq .leaf [0, 1, 2, 3, 9, 42] (.cond (.seq .leaf [8] .leaf) .leaf)) [0, 1, 2, 3, 9] (.seq .leaf [0, 1, 3, 9, 11] (.seq (.seq .leaf [0, 1, 3, 9, 11, 48] (.cond (.seq .leaf [0, 1, 9, 11, 56] (.cond (.seq .leaf [8] .leaf) .leaf)) .leaf)) [0, 1, 9, 11] (.seq .leaf [8] .leaf))))))) (Try.f58.body.getD .skip) = c58 := by kernel_rfl
theorem c58_ce {args : List Value} (ha : args.length ≤ 70) {h : H} {R : Ending → H → Prop} (hv : vc Try.prog c58 (retQ [8] R) (argEnv args 0) h) : CallsE Try.prog 58 args.toArray h R :=
  callsE_of (res := [8]) Try.func58 rfl rfl rfl c58_low ha hv
theorem c58_ok {args : List Value} (ha : args.length ≤ 70) {h : H} {R : Value → H → Prop} (hv : vc Try.prog c58 (retQ [8] (okR R)) (argEnv args 0) h) : Ok Try.prog 58 args.toArray h R :=
  ok_of (res := [8]) Try.func58 rfl rfl rfl c58_low ha hv

@[reducible] def c59_t0 : LC := (.seq (.ops [⟨none, none, (.st (.tmp 6) (.const (.bool false)))⟩]) [6] .ret)
@[reducible] def c59_d0 : DT := .q 0 ⟨(some 13), none, (.ld (.tmp 7))⟩ (.q 1 ⟨(some 14), none, (.ld (.tmp 4))⟩ (.q 2 ⟨(some 15), none, (.lenl (.tmp 14))⟩ (.q 3 ⟨(some 16), none, (.bin .geq .other (.tmp 13) (.tmp 15))⟩ (.q 4 ⟨(some 17), none, (.mv (.tmp 16))⟩ (.q 5 ⟨(some 18), (some (17, false)), (.ldn 2 (.tmp 8))⟩ (.q 6 ⟨(some 19), (some (17, false)), (.ld (.tmp 4))⟩ (.q 7 ⟨(some 20), (some (17, false)), (.ld (.tmp 7))⟩ (.q 8 ⟨(some 21), (some (17, false)), (.idx 2 (.tmp 19) (.tmp 20))⟩ (.q 9 ⟨(some 22), (some (17, false)), (.ldn 2 (.tmp 21))⟩ (.e 10 [] ⟨(some 23), (some (17, false)), (.raw ⟨(Option.some 23), (Op.binOp BinOp.neq 50 (Operand.tmp 18) (Operand.tmp 22) 50), 4, "", #[], none⟩)⟩ (.q 11 ⟨(some 24), none, (.pick (.tmp 17) (.const (.bool true)) (.tmp 23))⟩ (.done))))))))))))
@[reducible] def c59_t1 : LC := (.seq (.ops [⟨none, none, (.st (.tmp 6) (.const (.bool false)))⟩]) [6] .ret)
@[reducible] def c59_t2 : LC := (.seq (.ops [⟨none, none, (.st (.tmp 6) (.const (.bool true)))⟩]) [6] .ret)
@[reducible] def c59_s5 : LC := (.seq (.ops [⟨(some 27), none, (.ld (.tmp 7))⟩, ⟨(some 28), none, (.ld (.tmp 5))⟩, ⟨(some 29), none, (.bin .eql .other (.tmp 27) (.tmp 28))⟩]) [6, 29] (.cond (.tmp 29) c59_t2 .skip))
@[reducible] def c59_s4 : LC := (.seq (.ops [⟨(some 25), none, (.ld (.tmp 7))⟩, ⟨(some 26), none, (.bin .add .other (.tmp 25) (.const (.int .i64 1)))⟩, ⟨none, none, (.st (.tmp 7) (.tmp 26))⟩]) [5, 6, 7] c59_s5)
@[reducible] def c59_a0 : LC := (.ops [⟨(some 8), none, (.new 50 #[(.int .i64 0), (.int .i64 0)])⟩, ⟨none, none, (.stn 2 (.tmp 8) (.tmp 12))⟩])
@[reducible] def c59_r0 : LC := (.block 1 (.seq (.seq (.draw c59_d0) [5, 6, 7, 24] (.cond (.tmp 24) c59_t1 .skip)) [5, 6, 7] c59_s4))
@[reducible] def c59_s3 : LC := (.block 0 (.rf (.tmp 11) [12] [4, 5, 6, 7] [4, 5, 6, 7, 8] c59_a0 c59_r0))
@[reducible] def c59_s6 : LC := (.seq (.ops [⟨(some 30), none, (.ld (.tmp 7))⟩, ⟨(some 31), none, (.ld (.tmp 4))⟩, ⟨(some 32), none, (.lenl (.tmp 31))⟩, ⟨(some 33), none, (.bin .eql .other (.tmp 30) (.tmp 32))⟩, ⟨none, none, (.st (.tmp 6) (.tmp 33))⟩]) [6] .ret)
@[reducible] def c59_s2 : LC := (.seq (.seq (.ops [⟨(some 11), none, (.mv (.tmp 0))⟩]) [4, 5, 6, 7, 11] c59_s3) [4, 6, 7] c59_s6)
@[reducible] def c59_s1 : LC := (.seq (.ops [⟨(some 7), none, (.new 3 #[(.int .i64 0)])⟩, ⟨none, none, (.st (.tmp 7) (.const (.int .i64 0)))⟩]) [0, 4, 5, 6, 7] c59_s2)
@[reducible] def c59_s0 : LC := (.seq (.seq (.ops [⟨(some 9), none, (.mv (.tmp 0))⟩, ⟨(some 10), none, (.bin .eql .func (.tmp 9) (.const .nilFunc))⟩]) [0, 4, 5, 6, 10] (.cond (.tmp 10) c59_t0 .skip)) [0, 4, 5, 6] c59_s1)
@[reducible] def c59 : LC := (.seq (.ops [⟨(some 4), none, (.box 45 (.tmp 1))⟩, ⟨(some 5), none, (.box 3 (.tmp 2))⟩, ⟨(some 6), none, (.new 4 #[(.bool false)])⟩]) [0, 4, 5, 6] c59_s0)
theorem c59_low : lowC Try.prog ⟨0, 34⟩ (.seq .leaf [0, 4, 5, 6] (.seq (.seq .leaf [0, 4, 5, 6, 10] (.cond (.seq .leaf [6] .leaf) .leaf)) [0, 4, 5, 6] (.seq .leaf [0, 4, 5, 6, 7] (.seq (.seq .leaf [4, 5, 6, 7, 11] (.block (.rf [4, 5, 6, 7] [4, 5, 6, 7, 8] .leaf (.block (.seq (.seq (.draw [[], [], [1], [0, 1, 2], [0, 1, 2, 3], [0, 1, 2, 4], [4], [4], [4, 6, 7], [4, 6, 7, 8], [0, 1, 2, 3, 4, 5, 6, 7, 8, 9], [4, 10]] (.q 0 (.q 1 (.q 2 (.q 3 (.q 4 (.q 5 (.q 6 (.q 7 (.q 8 (.q 9 (.e 10 [] (.q 11 (.done)))))))))))))) [5, 6, 7, 24] (.cond (.seq .leaf [6] .leaf) .leaf)) [5, 6, 7] (.seq .leaf [5, 6, 7] (.seq .leaf [6, 29] (.cond (.seq .leaf [6] .leaf) .leaf)))))))) [4, 6, 7] (.seq .leaf [6] .leaf))))) (Try.f59.body.getD .skip) = c59 := by kernel_rfl
theorem c59_ok {args : List Value} (ha : args.length ≤ 34) {h : H} {R : Value → H → Prop} (hv : vc Try.prog c59 (retC [.c 6 4] (okR R)) (argEnv args 0) h) : Ok Try.prog 59 args.toArray h R :=
  okC_of (res := [.c 6 4]) Try.func59 rfl rfl rfl (by decide) c59_low ha hv

@[reducible] def c60_d0 : DT := .q 0 ⟨(some 9), none, (.mv (.tmp 1))⟩ (.q 1 ⟨(some 10), none, (.nilck (.tmp 9))⟩ (.q 2 ⟨(some 11), none, (.lea 0 (.tmp 10))⟩ (.q 3 ⟨(some 12), none, (.ld (.tmp 11))⟩ (.q 4 ⟨(some 13), none, (.mv (.tmp 0))⟩ (.q 5 ⟨(some 14), none, (.nilck (.tmp 13))⟩ (.q 6 ⟨(some 15), none, (.lea 1 (.tmp 14))⟩ (.q 7 ⟨(some 16), none, (.ld (.tmp 15))⟩ (.q 8 ⟨(some 17), none, (.bin .neq .other (.tmp 12) (.tmp 16))⟩ (.done)))))))))
@[reducible] def c60_t0 : LC := (.seq (.ops [⟨(some 4), none, (.mv (.const (.int .i64 4)))⟩]) [4] .ret)
@[reducible] def c60_t1 : LC := (.ops [⟨(some 45), none, (.mv (.tmp 5))⟩, ⟨(some 46), none, (.mv (.tmp 1))⟩, ⟨(some 47), none, (.nilck (.tmp 46))⟩, ⟨(some 48), none, (.lea 2 (.tmp 47))⟩, ⟨(some 49), none, (.ld (.tmp 48))⟩, ⟨(some 50), none, (.mv (.tmp 7))⟩, ⟨(some 51), none, (.idx 2 (.tmp 49) (.tmp 50))⟩, ⟨(some 52), none, (.ldn 2 (.tmp 51))⟩, ⟨(some 53), none, (.lit 50 1 #[(.int .i64 0), (.int .i64 0)] [(0, 2, (.tmp 52))])⟩, ⟨(some 54), none, (.app 50 2 16 #[(.int .i64 0), (.int .i64 0)] (.tmp 45) (.tmp 53))⟩, ⟨(some 5), none, (.mv (.tmp 54))⟩])
@[reducible] def c60_s6 : LC := (.ops [⟨(some 33), none, (.mv (.tmp 7))⟩, ⟨(some 34), none, (.bin .add .other (.tmp 33) (.const (.int .i64 1)))⟩, ⟨(some 7), none, (.mv (.tmp 34))⟩])
@[reducible] def c60_s5 : LC := (.seq (.block 1 (.seq (.ops [⟨(some 35), none, (.mv (.tmp 1))⟩, ⟨(some 36), none, (.nilck (.tmp 35))⟩, ⟨(some 37), none, (.lea 2 (.tmp 36))⟩, ⟨(some 38), none, (.ld (.tmp 37))⟩, ⟨(some 39), none, (.mv (.tmp 7))⟩, ⟨(some 40), none, (.idx 2 (.tmp 38) (.tmp 39))⟩, ⟨(some 41), none, (.lea 1 (.tmp 40))⟩, ⟨(some 42), none, (.ld (.tmp 41))⟩, ⟨(some 43), none, (.mv (.tmp 6))⟩, ⟨(some 44), none, (.bin .gtr .other (.tmp 42) (.tmp 43))⟩]) [0, 1, 5, 6, 7, 44] (.cond (.tmp 44) c60_t1 .skip))) [0, 1, 5, 6, 7] c60_s6)
@[reducible] def c60_b0 : LC := (.seq (.seq (.ops [⟨(some 26), none, (.mv (.tmp 7))⟩, ⟨(some 27), none, (.mv (.tmp 1))⟩, ⟨(some 28), none, (.nilck (.tmp 27))⟩, ⟨(some 29), none, (.lea 2 (.tmp 28))⟩, ⟨(some 30), none, (.ld (.tmp 29))⟩, ⟨(some 31), none, (.lenl (.tmp 30))⟩, ⟨(some 32), none, (.bin .lss .other (.tmp 26) (.tmp 31))⟩]) [0, 1, 5, 6, 7, 32] (.cond (.tmp 32) .skip (.exit 0))) [0, 1, 5, 6, 7] c60_s5)
@[reducible] def c60_l0 : LC := .loop [5, 7] [0, 1, 6] c60_b0
@[reducible] def c60_s4 : LC := (.block 0 c60_l0)
@[reducible] def c60_t2 : LC := (.seq (.ops [⟨(some 4), none, (.mv (.const (.int .i64 3)))⟩]) [4] .ret)
@[reducible] def c60_s11 : LC := (.seq (.ops [⟨(some 4), none, (.mv (.const (.int .i64 0)))⟩]) [4] .ret)
@[reducible] def c60_s10 : LC := (.seq (.ops [⟨(some 66), none, (.mv (.tmp 0))⟩, ⟨(some 67), none, (.mv (.tmp 8))⟩, ⟨(some 68), none, (.nilck (.tmp 66))⟩, ⟨(some 69), none, (.lea 1 (.tmp 68))⟩, ⟨none, none, (.st (.tmp 69) (.tmp 67))⟩]) [] c60_s11)
@[reducible] def c60_s9 : LC := (.seq (.ops [⟨(some 62), none, (.mv (.tmp 0))⟩, ⟨(some 63), none, (.mv (.tmp 5))⟩, ⟨(some 64), none, (.nilck (.tmp 62))⟩, ⟨(some 65), none, (.lea 2 (.tmp 64))⟩, ⟨none, none, (.st (.tmp 65) (.tmp 63))⟩]) [0, 8] c60_s10)
@[reducible] def c60_s8 : LC := (.seq (.ops [⟨(some 58), none, (.mv (.tmp 1))⟩, ⟨(some 59), none, (.nilck (.tmp 58))⟩, ⟨(some 60), none, (.lea 1 (.tmp 59))⟩, ⟨(some 61), none, (.ld (.tmp 60))⟩, ⟨(some 8), none, (.mv (.tmp 61))⟩]) [0, 5, 8] c60_s9)
@[reducible] def c60_s7 : LC := (.seq (.seq (.ops [⟨(some 55), none, (.mv (.tmp 5))⟩, ⟨(some 56), none, (.lenl (.tmp 55))⟩, ⟨(some 57), none, (.bin .gtr .other (.tmp 56) (.const (.int .i64 65536)))⟩]) [0, 1, 5, 57] (.cond (.tmp 57) c60_t2 .skip)) [0, 1, 5] c60_s8)
@[reducible] def c60_s3 : LC := (.seq (.seq (.ops [⟨(some 7), none, (.mv (.const (.int .i64 0)))⟩]) [0, 1, 5, 6, 7] c60_s4) [0, 1, 5] c60_s7)
@[reducible] def c60_s2 : LC := (.seq (.ops [⟨(some 24), none, (.mv (.tmp 0))⟩, ⟨(some 25), none, (.call 68 [(.tmp 24)])⟩, ⟨(some 6), none, (.mv (.tmp 25))⟩]) [0, 1, 5, 6] c60_s3)
@[reducible] def c60_s1 : LC := (.seq (.ops [⟨(some 18), none, (.lit 50 0 #[] [])⟩, ⟨(some 19), none, (.mv (.tmp 0))⟩, ⟨(some 20), none, (.nilck (.tmp 19))⟩, ⟨(some 21), none, (.lea 2 (.tmp 20))⟩, ⟨(some 22), none, (.ld (.tmp 21))⟩, ⟨(some 23), none, (.app 50 2 16 #[(.int .i64 0), (.int .i64 0)] (.tmp 18) (.tmp 22))⟩, ⟨(some 5), none, (.mv (.tmp 23))⟩]) [0, 1, 5] c60_s2)
@[reducible] def c60_s0 : LC := (.seq (.seq (.draw c60_d0) [0, 1, 17] (.cond (.tmp 17) c60_t0 .skip)) [0, 1] c60_s1)
@[reducible] def c60 : LC := (.seq (.ops [⟨(some 4), none, (.mv (.const (.int .i64 0)))⟩]) [0, 1] c60_s0)
theorem c60_low : lowC Try.prog ⟨0, 70⟩ (.seq .leaf [0, 1] (.seq (.seq (.draw [[], [0], [1], [2], [], [4], [5], [6], [3, 7]] (.q 0 (.q 1 (.q 2 (.q 3 (.q 4 (.q 5 (.q 6 (.q 7 (.q 8 (.done))))))))))) [0, 1, 17] (.cond (.seq .leaf [4] .leaf) .leaf)) [0, 1] (.seq .leaf [0, 1, 5] (.seq .leaf [0, 1, 5, 6] (.seq (.seq .leaf [0, 1, 5, 6, 7] (.block (.loop [5, 7] [0, 1, 6] (.seq (.seq .leaf [0, 1, 5, 6, 7, 32] (.cond .leaf .leaf)) [0, 1, 5, 6, 7] (.seq (.block (.seq .leaf [0, 1, 5, 6, 7, 44] (.cond .leaf .leaf))) [0, 1, 5, 6, 7] .leaf))))) [0, 1, 5] (.seq (.seq .leaf [0, 1, 5, 57] (.cond (.seq .leaf [4] .leaf) .leaf)) [0, 1, 5] (.seq .leaf [0, 5, 8] (.seq .leaf [0, 8] (.seq .leaf [] (.seq .leaf [4] .leaf)))))))))) (Try.f60.body.getD .skip) = c60 := by kernel_rfl
theorem c60_ce {args : List Value} (ha : args.length ≤ 70) {h : H} {R : Ending → H → Prop} (hv : vc Try.prog c60 (retQ [4] R) (argEnv args 0) h) : CallsE Try.prog 60 args.toArray h R :=
  callsE_of (res := [4]) Try.func60 rfl rfl rfl c60_low ha hv
theorem c60_ok {args : List Value} (ha : args.length ≤ 70) {h : H} {R : Value → H → Prop} (hv : vc Try.prog c60 (retQ [4] (okR R)) (argEnv args 0) h) : Ok Try.prog 60 args.toArray h R :=
  ok_of (res := [4]) Try.func60 rfl rfl rfl c60_low ha hv

@[reducible] def c61_s4 : LC := (.ops [⟨(some 18), none, (.mv (.tmp 0))⟩, ⟨(some 19), none, (.bin .quo .other (.tmp 18) (.const (.int .u64 256)))⟩, ⟨(some 0), none, (.mv (.tmp 19))⟩])
@[reducible] def c61_s5 : LC := (.ops [⟨(some 10), none, (.mv (.tmp 6))⟩, ⟨(some 11), none, (.bin .add .other (.tmp 10) (.const (.int .i64 1)))⟩, ⟨(some 6), none, (.mv (.tmp 11))⟩])
@[reducible] def c61_s3 : LC := (.seq (.block 1 (.seq (.ops [⟨(some 12), none, (.mv (.tmp 5))⟩, ⟨(some 13), none, (.mv (.tmp 0))⟩, ⟨(some 14), none, (.bin .rem .other (.tmp 13) (.const (.int .u64 256)))⟩, ⟨(some 15), none, (.cvi .u8 (.tmp 14))⟩, ⟨(some 16), none, (.lit 5 1 #[(.int .u8 0)] [(0, 1, (.tmp 15))])⟩, ⟨(some 17), none, (.app 5 1 1 #[(.int .u8 0)] (.tmp 12) (.tmp 16))⟩, ⟨(some 5), none, (.mv (.tmp 17))⟩]) [0, 1, 5, 6] c61_s4)) [0, 1, 5, 6] c61_s5)
@[reducible] def c61_b0 : LC := (.seq (.seq (.ops [⟨(some 7), none, (.mv (.tmp 6))⟩, ⟨(some 8), none, (.mv (.tmp 1))⟩, ⟨(some 9), none, (.bin .lss .other (.tmp 7) (.tmp 8))⟩]) [0, 1, 5, 6, 9] (.cond (.tmp 9) .skip (.exit 0))) [0, 1, 5, 6] c61_s3)
@[reducible] def c61_l0 : LC := .loop [0, 5, 6] [1] c61_b0
@[reducible] def c61_s2 : LC := (.block 0 c61_l0)
@[reducible] def c61_s6 : LC := (.seq (.ops [⟨(some 20), none, (.mv (.tmp 5))⟩, ⟨(some 4), none, (.mv (.tmp 20))⟩]) [4] .ret)
@[reducible] def c61_s1 : LC := (.seq (.seq (.ops [⟨(some 6), none, (.mv (.const (.int .i64 0)))⟩]) [0, 1, 5, 6] c61_s2) [5] c61_s6)
@[reducible] def c61_s0 : LC := (.seq (.ops [⟨(some 5), none, (.mv (.const (.slice none 0 0)))⟩]) [0, 1, 5] c61_s1)
@[reducible] def c61 : LC := (.seq (.ops [⟨(some 4), none, (.mv (.const (.slice none 0 0)))⟩]) [0, 1] c61_s0)
theorem c61_low : lowC Try.prog ⟨0, 21⟩ (.seq .leaf [0, 1] (.seq .leaf [0, 1, 5] (.seq (.seq .leaf [0, 1, 5, 6] (.block (.loop [0, 5, 6] [1] (.seq (.seq .leaf [0, 1, 5, 6, 9] (.cond .leaf .leaf)) [0, 1, 5, 6] (.seq (.block (.seq .leaf [0, 1, 5, 6] .leaf)) [0, 1, 5, 6] .leaf))))) [5] (.seq .leaf [4] .leaf)))) (Try.f61.body.getD .skip) = c61 := by kernel_rfl
theorem c61_ce {args : List Value} (ha : args.length ≤ 21) {h : H} {R : Ending → H → Prop} (hv : vc Try.prog c61 (retQ [4] R) (argEnv args 0) h) : CallsE Try.prog 61 args.toArray h R :=
  callsE_of (res := [4]) Try.func61 rfl rfl rfl c61_low ha hv
theorem c61_ok {args : List Value} (ha : args.length ≤ 21) {h : H} {R : Value → H → Prop} (hv : vc Try.prog c61 (retQ [4] (okR R)) (argEnv args 0) h) : Ok Try.prog 61 args.toArray h R :=
  ok_of (res := [4]) Try.func61 rfl rfl rfl c61_low ha hv

@[reducible] def c62_s0 : LC := (.seq (.ops [⟨(some 3), none, (.mkfn (.func 69) [] [(.tmp 1)])⟩, ⟨(some 2), none, (.mv (.tmp 3))⟩]) [2] .ret)
@[reducible] def c62 : LC := (.seq (.ops [⟨(some 1), none, (.box 45 (.tmp 0))⟩, ⟨(some 2), none, (.mv (.const .nilFunc))⟩]) [1] c62_s0)
theorem c62_low : lowC Try.prog ⟨0, 4⟩ (.seq .leaf [1] (.seq .leaf [2] .leaf)) (Try.f62.body.getD .skip) = c62 := by kernel_rfl
theorem c62_ce {args : List Value} (ha : args.length ≤ 4) {h : H} {R : Ending → H → Prop} (hv : vc Try.prog c62 (retQ [2] R) (argEnv args 0) h) : CallsE Try.prog 62 args.toArray h R :=
  callsE_of (res := [2]) Try.func62 rfl rfl rfl c62_low ha hv
theorem c62_ok {args : List Value} (ha : args.length ≤ 4) {h : H} {R : Value → H → Prop} (hv : vc Try.prog c62 (retQ [2] (okR R)) (argEnv args 0) h) : Ok Try.prog 62 args.toArray h R :=
  ok_of (res := [2]) Try.func62 rfl rfl rfl c62_low ha hv

@[reducible] def c63_t0 : LC := (.seq (.ops [⟨(some 2), none, (.mv (.const (.slice none 0 0)))⟩]) [2] .ret)
@[reducible] def c63_s1 : LC := (.seq (.ops [⟨(some 5), none, (.lit 5 0 #[] [])⟩, ⟨(some 6), none, (.mv (.tmp 0))⟩, ⟨(some 7), none, (.app 5 1 1 #[(.int .u8 0)] (.tmp 5) (.tmp 6))⟩, ⟨(some 2), none, (.mv (.tmp 7))⟩]) [2] .ret)
@[reducible] def c63_s0 : LC := (.seq (.seq (.ops [⟨(some 3), none, (.mv (.tmp 0))⟩, ⟨(some 4), none, (.bin .eql .slice (.tmp 3) (.const (.slice none 0 0)))⟩]) [0, 4] (.cond (.tmp 4) c63_t0 .skip)) [0] c63_s1)
@[reducible] def c63 : LC := (.seq (.ops [⟨(some 2), none, (.mv (.const (.slice none 0 0)))⟩]) [0] c63_s0)
theorem c63_low : lowC Try.prog ⟨0, 8⟩ (.seq .leaf [0] (.seq (.seq .leaf [0, 4] (.cond (.seq .leaf [2] .leaf) .leaf)) [0] (.seq .leaf [2] .leaf))) (Try.f63.body.getD .skip) = c63 := by kernel_rfl
theorem c63_ce {args : List Value} (ha : args.length ≤ 8) {h : H} {R : Ending → H → Prop} (hv : vc Try.prog c63 (retQ [2] R) (argEnv args 0) h) : CallsE Try.prog 63 args.toArray h R :=
  callsE_of (res := [2]) Try.func63 rfl rfl rfl c63_low ha hv
theorem c63_ok {args : List Value} (ha : args.length ≤ 8) {h : H} {R : Value → H → Prop} (hv : vc Try.prog c63 (retQ [2] (okR R)) (argEnv args 0) h) : Ok Try.prog 63 args.toArray h R :=
  ok_of (res := [2]) Try.func63 rfl rfl rfl c63_low ha hv

@[reducible] def c64_t0 : LC := (.seq (.ops [⟨(some 4), none, (.mv (.const (.int .u64 0)))⟩, ⟨(some 5), none, (.mv (.const (.int .i64 1)))⟩]) [4, 5] .ret)
@[reducible] def c64_d0 : DT := .q 0 ⟨(some 12), none, (.mv (.tmp 0))⟩ (.q 1 ⟨(some 13), none, (.nilck (.tmp 12))⟩ (.q 2 ⟨(some 14), none, (.lea 0 (.tmp 13))⟩ (.q 3 ⟨(some 15), none, (.ld (.tmp 14))⟩ (.q 4 ⟨(some 16), none, (.lenl (.tmp 15))⟩ (.q 5 ⟨(some 17), none, (.mv (.tmp 0))⟩ (.q 6 ⟨(some 18), none, (.nilck (.tmp 17))⟩ (.q 7 ⟨(some 19), none, (.lea 1 (.tmp 18))⟩ (.q 8 ⟨(some 20), none, (.ld (.tmp 19))⟩ (.q 9 ⟨(some 21), none, (.bin .sub .other (.tmp 16) (.tmp 20))⟩ (.q 10 ⟨(some 22), none, (.mv (.tmp 1))⟩ (.q 11 ⟨(some 23), none, (.bin .lss .other (.tmp 21) (.tmp 22))⟩ (.q 12 ⟨(some 11), none, (.mv (.tmp 23))⟩ (.done)))))))))))))
@[reducible] def c64_t2 : LC := (.seq (.ops [⟨(some 4), none, (.mv (.const (.int .u64 0)))⟩, ⟨(some 5), none, (.mv (.const (.int .i64 111)))⟩]) [4, 5] .ret)
@[reducible] def c64_t1 : LC := (.seq (.draw c64_d0) [0, 1, 11] (.cond (.tmp 11) c64_t2 .skip))
@[reducible] def c64_d1 : DT := .q 0 ⟨(some 30), none, (.mv (.tmp 6))⟩ (.q 1 ⟨(some 31), none, (.bin .shl .other (.tmp 30) (.const (.int .u64 8)))⟩ (.q 2 ⟨(some 32), none, (.mv (.tmp 0))⟩ (.q 3 ⟨(some 33), none, (.nilck (.tmp 32))⟩ (.q 4 ⟨(some 34), none, (.lea 0 (.tmp 33))⟩ (.q 5 ⟨(some 35), none, (.ld (.tmp 34))⟩ (.q 6 ⟨(some 36), none, (.mv (.tmp 0))⟩ (.q 7 ⟨(some 37), none, (.nilck (.tmp 36))⟩ (.q 8 ⟨(some 38), none, (.lea 1 (.tmp 37))⟩ (.q 9 ⟨(some 39), none, (.ld (.tmp 38))⟩ (.q 10 ⟨(some 40), none, (.mv (.tmp 7))⟩ (.q 11 ⟨(some 41), none, (.bin .add .other (.tmp 39) (.tmp 40))⟩ (.q 12 ⟨(some 42), none, (.idx 1 (.tmp 35) (.tmp 41))⟩ (.q 13 ⟨(some 43), none, (.ld (.tmp 42))⟩ (.q 14 ⟨(some 44), none, (.cvi .u64 (.tmp 43))⟩ (.q 15 ⟨(some 45), none, (.bin .or .other (.tmp 31) (.tmp 44))⟩ (.q 16 ⟨(some 6), none, (.mv (.tmp 45))⟩ (.done)))))))))))))))))
@[reducible] def c64_s5 : LC := (.ops [⟨(some 28), none, (.mv (.tmp 7))⟩, ⟨(some 29), none, (.bin .sub .other (.tmp 28) (.const (.int .i64 1)))⟩, ⟨(some 7), none, (.mv (.tmp 29))⟩])
@[reducible] def c64_s4 : LC := (.seq (.block 2 (.draw c64_d1)) [0, 1, 6, 7] c64_s5)
@[reducible] def c64_b0 : LC := (.seq (.seq (.ops [⟨(some 26), none, (.mv (.tmp 7))⟩, ⟨(some 27), none, (.bin .geq .other (.tmp 26) (.const (.int .i64 0)))⟩]) [0, 1, 6, 7, 27] (.cond (.tmp 27) .skip (.exit 1))) [0, 1, 6, 7] c64_s4)
@[reducible] def c64_l0 : LC := .loop [6, 7] [0, 1] c64_b0
@[reducible] def c64_s3 : LC := (.block 1 c64_l0)
@[reducible] def c64_s7 : LC := (.seq (.ops [⟨(some 54), none, (.mv (.tmp 6))⟩, ⟨(some 4), none, (.mv (.tmp 54))⟩, ⟨(some 5), none, (.mv (.const (.int .i64 0)))⟩]) [4, 5] .ret)
@[reducible] def c64_s6 : LC := (.seq (.ops [⟨(some 46), none, (.mv (.tmp 0))⟩, ⟨(some 47), none, (.nilck (.tmp 46))⟩, ⟨(some 48), none, (.lea 1 (.tmp 47))⟩, ⟨(some 49), none, (.ld (.tmp 48))⟩, ⟨(some 50), none, (.mv (.tmp 1))⟩, ⟨(some 51), none, (.bin .add .other (.tmp 49) (.tmp 50))⟩, ⟨(some 52), none, (.nilck (.tmp 46))⟩, ⟨(some 53), none, (.lea 1 (.tmp 52))⟩, ⟨none, none, (.st (.tmp 53) (.tmp 51))⟩]) [6] c64_s7)
@[reducible] def c64_s2 : LC := (.seq (.seq (.ops [⟨(some 24), none, (.mv (.tmp 1))⟩, ⟨(some 25), none, (.bin .sub .other (.tmp 24) (.const (.int .i64 1)))⟩, ⟨(some 7), none, (.mv (.tmp 25))⟩]) [0, 1, 6, 7] c64_s3) [0, 1, 6] c64_s6)
@[reducible] def c64_s1 : LC := (.seq (.ops [⟨(some 6), none, (.mv (.const (.int .u64 0)))⟩]) [0, 1, 6] c64_s2)
@[reducible] def c64_s0 : LC := (.seq (.block 0 (.seq (.ops [⟨(some 9), none, (.mv (.tmp 0))⟩, ⟨(some 10), none, (.call 65 [(.tmp 9)])⟩, ⟨(some 8), none, (.mv (.tmp 10))⟩]) [0, 1, 8] (.cond (.tmp 8) c64_t0 c64_t1))) [0, 1] c64_s1)
@[reducible] def c64 : LC := (.seq (.ops [⟨(some 4), none, (.mv (.const (.int .u64 0)))⟩, ⟨(some 5), none, (.mv (.const (.int .i64 0)))⟩]) [0, 1] c64_s0)
theorem c64_low : lowC Try.prog ⟨0, 55⟩ (.seq .leaf [0, 1] (.seq (.block (.seq .leaf [0, 1, 8] (.cond (.seq .leaf [4, 5] .leaf) (.seq (.draw [[], [0], [1], [2], [3], [], [5], [6], [7], [4, 8], [], [9, 10], [11]] (.q 0 (.q 1 (.q 2 (.q 3 (.q 4 (.q 5 (.q 6 (.q 7 (.q 8 (.q 9 (.q 10 (.q 11 (.q 12 (.done))))))))))))))) [0, 1, 11] (.cond (.seq .leaf [4, 5] .leaf) .leaf))))) [0, 1] (.seq .leaf [0, 1, 6] (.seq (.seq .leaf [0, 1, 6, 7] (.block (.loop [6, 7] [0, 1] (.seq (.seq .leaf [0, 1, 6, 7, 27] (.cond .leaf .leaf)) [0, 1, 6, 7] (.seq (.block (.draw [[], [0], [], [2], [3], [4], [], [6], [7], [8], [], [9, 10], [5, 11], [12], [13], [1, 14], [0, 15]] (.q 0 (.q 1 (.q 2 (.q 3 (.q 4 (.q 5 (.q 6 (.q 7 (.q 8 (.q 9 (.q 10 (.q 11 (.q 12 (.q 13 (.q 14 (.q 15 (.q 16 (.done)))))))))))))))))))) [0, 1, 6, 7] .leaf))))) [0, 1, 6] (.seq .leaf [6] (.seq .leaf [4, 5] .leaf)))))) (Try.f64.body.getD .skip) = c64 := by kernel_rfl
theorem c64_ce {args : List Value} (ha : args.length ≤ 55) {h : H} {R : Ending → H → Prop} (hv : vc Try.prog c64 (retQ [4, 5] R) (argEnv args 0) h) : CallsE Try.prog 64 args.toArray h R :=
  callsE_of (res := [4, 5]) Try.func64 rfl rfl rfl c64_low ha hv
theorem c64_ok {args : List Value} (ha : args.length ≤ 55) {h : H} {R : Value → H → Prop} (hv : vc Try.prog c64 (retQ [4, 5] (okR R)) (argEnv args 0) h) : Ok Try.prog 64 args.toArray h R :=
  ok_of (res := [4, 5]) Try.func64 rfl rfl rfl c64_low ha hv

@[reducible] def c65_s0 : LC := (.seq (.ops [⟨(some 3), none, (.mv (.tmp 0))⟩, ⟨(some 4), none, (.bin .eql .ptr (.tmp 3) (.const (.pointer none)))⟩, ⟨(some 5), none, (.mv (.tmp 4))⟩, ⟨(some 6), (some (5, false)), (.mv (.tmp 0))⟩, ⟨(some 7), (some (5, false)), (.nilck (.tmp 6))⟩, ⟨(some 8), (some (5, false)), (.lea 2 (.tmp 7))⟩, ⟨(some 9), (some (5, false)), (.ld (.tmp 8))⟩, ⟨(some 10), (some (5, false)), (.un .not (.tmp 9))⟩, ⟨(some 11), none, (.pick (.tmp 5) (.const (.bool true)) (.tmp 10))⟩, ⟨(some 2), none, (.mv (.tmp 11))⟩]) [2] .ret)
@[reducible] def c65 : LC := (.seq (.ops [⟨(some 2), none, (.mv (.const (.bool false)))⟩]) [0] c65_s0)
theorem c65_low : lowC Try.prog ⟨0, 12⟩ (.seq .leaf [0] (.seq .leaf [2] .leaf)) (Try.f65.body.getD .skip) = c65 := by kernel_rfl
theorem c65_ce {args : List Value} (ha : args.length ≤ 12) {h : H} {R : Ending → H → Prop} (hv : vc Try.prog c65 (retQ [2] R) (argEnv args 0) h) : CallsE Try.prog 65 args.toArray h R :=
  callsE_of (res := [2]) Try.func65 rfl rfl rfl c65_low ha hv
theorem c65_ok {args : List Value} (ha : args.length ≤ 12) {h : H} {R : Value → H → Prop} (hv : vc Try.prog c65 (retQ [2] (okR R)) (argEnv args 0) h) : Ok Try.prog 65 args.toArray h R :=
  ok_of (res := [2]) Try.func65 rfl rfl rfl c65_low ha hv

@[reducible] def c66_s4 : LC := (.ops [⟨(some 27), none, (.mv (.tmp 1))⟩, ⟨(some 28), none, (.bin .shr .other (.tmp 27) (.const (.int .u64 8)))⟩, ⟨(some 1), none, (.mv (.tmp 28))⟩])
@[reducible] def c66_s5 : LC := (.ops [⟨(some 20), none, (.mv (.tmp 2))⟩, ⟨(some 21), none, (.bin .sub .other (.tmp 20) (.const (.int .i64 1)))⟩, ⟨(some 2), none, (.mv (.tmp 21))⟩])
@[reducible] def c66_s3 : LC := (.seq (.block 1 (.seq (.ops [⟨(some 22), none, (.mv (.tmp 7))⟩, ⟨(some 23), none, (.mv (.tmp 1))⟩, ⟨(some 24), none, (.cvi .u8 (.tmp 23))⟩, ⟨(some 25), none, (.lit 5 1 #[(.int .u8 0)] [(0, 1, (.tmp 24))])⟩, ⟨(some 26), none, (.app 5 1 1 #[(.int .u8 0)] (.tmp 22) (.tmp 25))⟩, ⟨(some 7), none, (.mv (.tmp 26))⟩]) [1, 2, 7] c66_s4)) [1, 2, 7] c66_s5)
@[reducible] def c66_b0 : LC := (.seq (.seq (.ops [⟨(some 18), none, (.mv (.tmp 2))⟩, ⟨(some 19), none, (.bin .gtr .other (.tmp 18) (.const (.int .i64 0)))⟩]) [1, 2, 7, 19] (.cond (.tmp 19) .skip (.exit 0))) [1, 2, 7] c66_s3)
@[reducible] def c66_l0 : LC := .loop [1, 2, 7] [] c66_b0
@[reducible] def c66_s6 : LC := (.seq (.ops [⟨(some 29), none, (.mv (.tmp 7))⟩, ⟨(some 6), none, (.mv (.tmp 29))⟩]) [6] .ret)
@[reducible] def c66_s2 : LC := (.seq (.block 0 c66_l0) [7] c66_s6)
@[reducible] def c66_s1 : LC := (.seq (.ops [⟨(some 15), none, (.mv (.tmp 7))⟩, ⟨(some 16), none, (.mv (.tmp 0))⟩, ⟨(some 17), none, (.cpy 1 (.tmp 15) (.tmp 16))⟩]) [1, 2, 7] c66_s2)
@[reducible] def c66_s0 : LC := (.seq (.ops [⟨(some 8), none, (.mv (.tmp 0))⟩, ⟨(some 9), none, (.lenl (.tmp 8))⟩, ⟨(some 10), none, (.mv (.tmp 0))⟩, ⟨(some 11), none, (.lenl (.tmp 10))⟩, ⟨(some 12), none, (.mv (.tmp 2))⟩, ⟨(some 13), none, (.bin .add .other (.tmp 11) (.tmp 12))⟩, ⟨(some 14), none, (.mkslice 5 1 1 #[(.int .u8 0)] (.tmp 9) (.tmp 13))⟩, ⟨(some 7), none, (.mv (.tmp 14))⟩]) [0, 1, 2, 7] c66_s1)
@[reducible] def c66 : LC := (.seq (.ops [⟨(some 6), none, (.mv (.const (.slice none 0 0)))⟩]) [0, 1, 2] c66_s0)
theorem c66_low : lowC Try.prog ⟨0, 30⟩ (.seq .leaf [0, 1, 2] (.seq .leaf [0, 1, 2, 7] (.seq .leaf [1, 2, 7] (.seq (.block (.loop [1, 2, 7] [] (.seq (.seq .leaf [1, 2, 7, 19] (.cond .leaf .leaf)) [1, 2, 7] (.seq (.block (.seq .leaf [1, 2, 7] .leaf)) [1, 2, 7] .leaf)))) [7] (.seq .leaf [6] .leaf))))) (Try.f66.body.getD .skip) = c66 := by kernel_rfl
theorem c66_ce {args : List Value} (ha : args.length ≤ 30) {h : H} {R : Ending → H → Prop} (hv : vc Try.prog c66 (retQ [6] R) (argEnv args 0) h) : CallsE Try.prog 66 args.toArray h R :=
  callsE_of (res := [6]) Try.func66 rfl rfl rfl c66_low ha hv
theorem c66_ok {args : List Value} (ha : args.length ≤ 30) {h : H} {R : Value → H → Prop} (hv : vc Try.prog c66 (retQ [6] (okR R)) (argEnv args 0) h) : Ok Try.prog 66 args.toArray h R :=
  ok_of (res := [6]) Try.func66 rfl rfl rfl c66_low ha hv

@[reducible] def c67_t0 : LC := (.seq (.ops [⟨(some 17), none, (.mv (.tmp 5))⟩, ⟨(some 4), none, (.mv (.tmp 17))⟩]) [4] .ret)
@[reducible] def c67_s4 : LC := (.seq (.ops [⟨(some 11), none, (.mv (.tmp 1))⟩, ⟨(some 12), none, (.mv (.tmp 0))⟩, ⟨(some 13), none, (.mv (.tmp 5))⟩, ⟨(some 14), none, (.idx 3 (.tmp 12) (.tmp 13))⟩, ⟨(some 15), none, (.ldn 3 (.tmp 14))⟩, ⟨(some 16), none, (.callv (.tmp 11) [(.tmp 15)])⟩]) [0, 1, 5, 7, 8, 16] (.cond (.tmp 16) c67_t0 .skip))
@[reducible] def c67_s5 : LC := (.ops [⟨(some 18), none, (.bin .add .other (.tmp 8) (.const (.int .i64 1)))⟩, ⟨(some 8), none, (.mv (.tmp 18))⟩])
@[reducible] def c67_s3 : LC := (.seq (.block 1 (.seq (.ops [⟨(some 10), none, (.mv (.tmp 8))⟩, ⟨(some 5), none, (.mv (.tmp 10))⟩]) [0, 1, 5, 7, 8] c67_s4)) [0, 1, 7, 8] c67_s5)
@[reducible] def c67_s2 : LC := (.seq (.cond (.tmp 9) .skip (.exit 0)) [0, 1, 7, 8] c67_s3)
@[reducible] def c67_b0 : LC := (.seq (.ops [⟨(some 9), none, (.bin .lss .other (.tmp 8) (.tmp 7))⟩]) [0, 1, 7, 8, 9] c67_s2)
@[reducible] def c67_l0 : LC := .loop [8] [0, 1, 7] c67_b0
@[reducible] def c67_s1 : LC := (.block 0 c67_l0)
@[reducible] def c67_s6 : LC := (.seq (.ops [⟨(some 4), none, (.mv (.const (.int .i64 (-1))))⟩]) [4] .ret)
@[reducible] def c67_s0 : LC := (.seq (.seq (.ops [⟨(some 6), none, (.mv (.tmp 0))⟩, ⟨(some 7), none, (.lenl (.tmp 6))⟩, ⟨(some 8), none, (.mv (.const (.int .i64 0)))⟩]) [0, 1, 7, 8] c67_s1) [] c67_s6)
@[reducible] def c67 : LC := (.seq (.ops [⟨(some 4), none, (.mv (.const (.int .i64 0)))⟩]) [0, 1] c67_s0)
theorem c67_low : lowC Try.prog ⟨0, 19⟩ (.seq .leaf [0, 1] (.seq (.seq .leaf [0, 1, 7, 8] (.block (.loop [8] [0, 1, 7] (.seq .leaf [0, 1, 7, 8, 9] (.seq (.cond .leaf .leaf) [0, 1, 7, 8] (.seq (.block (.seq .leaf [0, 1, 5, 7, 8] (.seq .leaf [0, 1, 5, 7, 8, 16] (.cond (.seq .leaf [4] .leaf) .leaf)))) [0, 1, 7, 8] .leaf)))))) [] (.seq .leaf [4] .leaf))) (Try.f67.body.getD .skip) = c67 := by kernel_rfl
theorem c67_ce {args : List Value} (ha : args.length ≤ 19) {h : H} {R : Ending → H → Prop} (hv : vc Try.prog c67 (retQ [4] R) (argEnv args 0) h) : CallsE Try.prog 67 args.toArray h R :=
  callsE_of (res := [4]) Try.func67 rfl rfl rfl c67_low ha hv
theorem c67_ok {args : List Value} (ha : args.length ≤ 19) {h : H} {R : Value → H → Prop} (hv : vc Try.prog c67 (retQ [4] (okR R)) (argEnv args 0) h) : Ok Try.prog 67 args.toArray h R :=
  ok_of (res := [4]) Try.func67 rfl rfl rfl c67_low ha hv

@[reducible] def c68_t0 : LC := (.seq (.ops [⟨(some 2), none, (.mv (.const (.int .i64 (-1))))⟩]) [2] .ret)
@[reducible] def c68_d0 : DT := .q 0 ⟨(some 9), none, (.mv (.tmp 0))⟩ (.q 1 ⟨(some 10), none, (.nilck (.tmp 9))⟩ (.q 2 ⟨(some 11), none, (.lea 2 (.tmp 10))⟩ (.q 3 ⟨(some 12), none, (.ld (.tmp 11))⟩ (.q 4 ⟨(some 13), none, (.mv (.tmp 0))⟩ (.q 5 ⟨(some 14), none, (.nilck (.tmp 13))⟩ (.q 6 ⟨(some 15), none, (.lea 2 (.tmp 14))⟩ (.q 7 ⟨(some 16), none, (.ld (.tmp 15))⟩ (.q 8 ⟨(some 17), none, (.lenl (.tmp 16))⟩ (.q 9 ⟨(some 18), none, (.bin .sub .other (.tmp 17) (.const (.int .i64 1)))⟩ (.q 10 ⟨(some 19), none, (.idx 2 (.tmp 12) (.tmp 18))⟩ (.q 11 ⟨(some 20), none, (.lea 1 (.tmp 19))⟩ (.q 12 ⟨(some 21), none, (.ld (.tmp 20))⟩ (.q 13 ⟨(some 2), none, (.mv (.tmp 21))⟩ (.done))))))))))))))
@[reducible] def c68_s1 : LC := (.seq (.draw c68_d0) [2] .ret)
@[reducible] def c68_s0 : LC := (.seq (.seq (.ops [⟨(some 3), none, (.mv (.tmp 0))⟩, ⟨(some 4), none, (.nilck (.tmp 3))⟩, ⟨(some 5), none, (.lea 2 (.tmp 4))⟩, ⟨(some 6), none, (.ld (.tmp 5))⟩, ⟨(some 7), none, (.lenl (.tmp 6))⟩, ⟨(some 8), none, (.bin .eql .other (.tmp 7) (.const (.int .i64 0)))⟩]) [0, 8] (.cond (.tmp 8) c68_t0 .skip)) [0] c68_s1)
@[reducible] def c68 : LC := (.seq (.ops [⟨(some 2), none, (.mv (.const (.int .i64 0)))⟩]) [0] c68_s0)
theorem c68_low : lowC Try.prog ⟨0, 22⟩ (.seq .leaf [0] (.seq (.seq .leaf [0, 8] (.cond (.seq .leaf [2] .leaf) .leaf)) [0] (.seq (.draw [[], [0], [1], [2], [], [4], [5], [6], [7], [8], [3, 9], [10], [11], [12]] (.q 0 (.q 1 (.q 2 (.q 3 (.q 4 (.q 5 (.q 6 (.q 7 (.q 8 (.q 9 (.q 10 (.q 11 (.q 12 (.q 13 (.done)))))))))))))))) [2] .leaf))) (Try.f68.body.getD .skip) = c68 := by kernel_rfl
theorem c68_ce {args : List Value} (ha : args.length ≤ 22) {h : H} {R : Ending → H → Prop} (hv : vc Try.prog c68 (retQ [2] R) (argEnv args 0) h) : CallsE Try.prog 68 args.toArray h R :=
  callsE_of (res := [2]) Try.func68 rfl rfl rfl c68_low ha hv
theorem c68_ok {args : List Value} (ha : args.length ≤ 22) {h : H} {R : Value → H → Prop} (hv : vc Try.prog c68 (retQ [2] (okR R)) (argEnv args 0) h) : Ok Try.prog 68 args.toArray h R :=
  ok_of (res := [2]) Try.func68 rfl rfl rfl c68_low ha hv

@[reducible] def c69_s3 : LC := (.seq (.ops [⟨(some 11), none, (.mv (.tmp 0))⟩, ⟨(some 12), none, (.ldn 2 (.tmp 4))⟩, ⟨(some 13), none, (.callv (.tmp 11) [(.tmp 12)])⟩, ⟨(some 14), none, (.un .not (.tmp 13))⟩]) [0, 5, 6, 7, 14] (.cond (.tmp 14) .ret .skip))
@[reducible] def c69_s4 : LC := (.ops [⟨(some 15), none, (.bin .add .other (.tmp 7) (.const (.int .i64 1)))⟩, ⟨(some 7), none, (.mv (.tmp 15))⟩])
@[reducible] def c69_s2 : LC := (.seq (.block 1 (.seq (.ops [⟨(some 9), none, (.idx 2 (.tmp 5) (.tmp 7))⟩, ⟨(some 10), none, (.ldn 2 (.tmp 9))⟩, ⟨(some 4), none, (.new 50 #[(.int .i64 0), (.int .i64 0)])⟩, ⟨none, none, (.stn 2 (.tmp 4) (.tmp 10))⟩]) [0, 4, 5, 6, 7] c69_s3)) [0, 5, 6, 7] c69_s4)
@[reducible] def c69_s1 : LC := (.seq (.cond (.tmp 8) .skip (.exit 0)) [0, 5, 6, 7] c69_s2)
@[reducible] def c69_b0 : LC := (.seq (.ops [⟨(some 8), none, (.bin .lss .other (.tmp 7) (.tmp 6))⟩]) [0, 5, 6, 7, 8] c69_s1)
@[reducible] def c69_l0 : LC := .loop [7] [0, 5, 6] c69_b0
@[reducible] def c69_s0 : LC := (.block 0 c69_l0)
@[reducible] def c69 : LC := (.seq (.ops [⟨(some 5), none, (.ld (.tmp 1))⟩, ⟨(some 6), none, (.lenl (.tmp 5))⟩, ⟨(some 7), none, (.mv (.const (.int .i64 0)))⟩]) [0, 5, 6, 7] c69_s0)
theorem c69_low : lowC Try.prog ⟨0, 16⟩ (.seq .leaf [0, 5, 6, 7] (.block (.loop [7] [0, 5, 6] (.seq .leaf [0, 5, 6, 7, 8] (.seq (.cond .leaf .leaf) [0, 5, 6, 7] (.seq (.block (.seq .leaf [0, 4, 5, 6, 7] (.seq .leaf [0, 5, 6, 7, 14] (.cond .leaf .leaf)))) [0, 5, 6, 7] .leaf)))))) (Try.f69.body.getD .skip) = c69 := by kernel_rfl
theorem c69_ce {args : List Value} (ha : args.length ≤ 16) {h : H} {R : Ending → H → Prop} (hv : vc Try.prog c69 (retQ [] R) (argEnv args 0) h) : CallsE Try.prog 69 args.toArray h R :=
  callsE_of (res := []) Try.func69 rfl rfl rfl c69_low ha hv
theorem c69_ok {args : List Value} (ha : args.length ≤ 16) {h : H} {R : Value → H → Prop} (hv : vc Try.prog c69 (retQ [] (okR R)) (argEnv args 0) h) : Ok Try.prog 69 args.toArray h R :=
  ok_of (res := []) Try.func69 rfl rfl rfl c69_low ha hv

end Go.Proofs.Ytmjbgfflbeibnaa
