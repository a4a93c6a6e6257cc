/-
  Lowered functions, written by a program (wip/tools/low.py) and checked by the kernel.
-/
import Derived.Test.YtfeaaliocdkonaaKD
import Derived.Test.YtfeaaliocdkonaaChecked
import Derived.KernelRfl
import Derived.Test.YtfeaaliocdkonaaC0a
namespace Go.Proofs.Ytfeaaliocdkonaa
set_option maxRecDepth 100000
@[reducible] def c47_t0 : LC := (.seq (.ops [⟨(some 4), none, (.mv (.const (.bool false)))⟩]) [4] .ret)
@[reducible] def c47_d0 : DT := .q 0 ⟨(some 17), none, (.mv (.tmp 0))⟩ (.q 1 ⟨(some 18), none, (.mv (.tmp 5))⟩ (.q 2 ⟨(some 19), none, (.idx 3 (.tmp 17) (.tmp 18))⟩ (.q 3 ⟨(some 20), none, (.lea 0 (.tmp 19))⟩ (.q 4 ⟨(some 21), none, (.ld (.tmp 20))⟩ (.q 5 ⟨(some 22), none, (.mv (.tmp 1))⟩ (.q 6 ⟨(some 23), none, (.mv (.tmp 5))⟩ (.q 7 ⟨(some 24), none, (.idx 3 (.tmp 22) (.tmp 23))⟩ (.q 8 ⟨(some 25), none, (.lea 0 (.tmp 24))⟩ (.q 9 ⟨(some 26), none, (.ld (.tmp 25))⟩ (.q 10 ⟨(some 27), none, (.bin .neq .other (.tmp 21) (.tmp 26))⟩ (.q 11 ⟨(some 28), none, (.mv (.tmp 27))⟩ (.q 12 ⟨(some 29), (some (28, false)), (.mv (.tmp 0))⟩ (.q 13 ⟨(some 30), (some (28, false)), (.mv (.tmp 5))⟩ (.q 14 ⟨(some 31), (some (28, false)), (.idx 3 (.tmp 29) (.tmp 30))⟩ (.q 15 ⟨(some 32), (some (28, false)), (.lea 1 (.tmp 31))⟩ (.q 16 ⟨(some 33), (some (28, false)), (.ld (.tmp 32))⟩ (.q 18 ⟨(some 35), (some (28, false)), (.mv (.tmp 1))⟩ (.q 19 ⟨(some 36), (some (28, false)), (.mv (.tmp 5))⟩ (.q 20 ⟨(some 37), (some (28, false)), (.idx 3 (.tmp 35) (.tmp 36))⟩ (.q 21 ⟨(some 38), (some (28, false)), (.lea 1 (.tmp 37))⟩ (.q 22 ⟨(some 39), (some (28, false)), (.ld (.tmp 38))⟩ (.al 17 [18, 19, 20, 21, 22] ⟨(some 34), (some (28, false)), (.cvbs (.tmp 33))⟩ (.e 23 [12, 13, 14, 15, 16] ⟨(some 40), (some (28, false)), (.cvbs (.tmp 39))⟩ (.q 24 ⟨(some 41), (some (28, false)), (.bin .neq .other (.tmp 34) (.tmp 40))⟩ (.q 25 ⟨(some 42), none, (.pick (.tmp 28) (.const (.bool true)) (.tmp 41))⟩ (.q 26 ⟨(some 43), none, (.mv (.tmp 42))⟩ (.q 27 ⟨(some 44), (some (43, false)), (.mv (.tmp 0))⟩ (.q 28 ⟨(some 45), (some (43, false)), (.mv (.tmp 5))⟩ (.q 29 ⟨(some 46), (some (43, false)), (.idx 3 (.tmp 44) (.tmp 45))⟩ (.q 30 ⟨(some 47), (some (43, false)), (.lea 2 (.tmp 46))⟩ (.q 31 ⟨(some 48), (some (43, false)), (.ld (.tmp 47))⟩ (.q 33 ⟨(some 50), (some (43, false)), (.mv (.tmp 1))⟩ (.q 34 ⟨(some 51), (some (43, false)), (.mv (.tmp 5))⟩ (.q 35 ⟨(some 52), (some (43, false)), (.idx 3 (.tmp 50) (.tmp 51))⟩ (.q 36 ⟨(some 53), (some (43, false)), (.lea 2 (.tmp 52))⟩ (.q 37 ⟨(some 54), (some (43, false)), (.ld (.tmp 53))⟩ (.al 32 [33, 34, 35, 36, 37] ⟨(some 49), (some (43, false)), (.cvbs (.tmp 48))⟩ (.e 38 [27, 28, 29, 30, 31] ⟨(some 55), (some (43, false)), (.cvbs (.tmp 54))⟩ (.q 39 ⟨(some 56), (some (43, false)), (.bin .neq .other (.tmp 49) (.tmp 55))⟩ (.q 40 ⟨(some 57), none, (.pick (.tmp 43) (.const (.bool true)) (.tmp 56))⟩ (.done)))) (.e 38 [27, 28, 29, 30, 31] ⟨(some 55), (some (43, false)), (.cvbs (.tmp 54))⟩ (.e 32 [33, 34, 35, 36, 37] ⟨(some 49), (some (43, false)), (.cvbs (.tmp 48))⟩ (.q 39 ⟨(some 56), (some (43, false)), (.bin .neq .other (.tmp 49) (.tmp 55))⟩ (.q 40 ⟨(some 57), none, (.pick (.tmp 43) (.const (.bool true)) (.tmp 56))⟩ (.done)))))))))))))))))))) (.e 23 [12, 13, 14, 15, 16] ⟨(some 40), (some (28, false)), (.cvbs (.tmp 39))⟩ (.e 17 [18, 19, 20, 21, 22] ⟨(some 34), (some (28, false)), (.cvbs (.tmp 33))⟩ (.q 24 ⟨(some 41), (some (28, false)), (.bin .neq .other (.tmp 34) (.tmp 40))⟩ (.q 25 ⟨(some 42), none, (.pick (.tmp 28) (.const (.bool true)) (.tmp 41))⟩ (.q 26 ⟨(some 43), none, (.mv (.tmp 42))⟩ (.q 27 ⟨(some 44), (some (43, false)), (.mv (.tmp 0))⟩ (.q 28 ⟨(some 45), (some (43, false)), (.mv (.tmp 5))⟩ (.q 29 ⟨(some 46), (some (43, false)), (.idx 3 (.tmp 44) (.tmp 45))⟩ (.q 30 ⟨(some 47), (some (43, false)), (.lea 2 (.tmp 46))⟩ (.q 31 ⟨(some 48), (some (43, false)), (.ld (.tmp 47))⟩ (.q 33 ⟨(some 50), (some (43, false)), (.mv (.tmp 1))⟩ (.q 34 ⟨(some 51), (some (43, false)), (.mv (.tmp 5))⟩ (.q 35 ⟨(some 52), (some (43, false)), (.idx 3 (.tmp 50) (.tmp 51))⟩ (.q 36 ⟨(some 53), (some (43, false)), (.lea 2 (.tmp 52))⟩ (.q 37 ⟨(some 54), (some (43, false)), (.ld (.tmp 53))⟩ (.al 32 [33, 34, 35, 36, 37] ⟨(some 49), (some (43, false)), (.cvbs (.tmp 48))⟩ (.e 38 [27, 28, 29, 30, 31] ⟨(some 55), (some (43, false)), (.cvbs (.tmp 54))⟩ (.q 39 ⟨(some 56), (some (43, false)), (.bin .neq .other (.tmp 49) (.tmp 55))⟩ (.q 40 ⟨(some 57), none, (.pick (.tmp 43) (.const (.bool true)) (.tmp 56))⟩ (.done)))) (.e 38 [27, 28, 29, 30, 31] ⟨(some 55), (some (43, false)), (.cvbs (.tmp 54))⟩ (.e 32 [33, 34, 35, 36, 37] ⟨(some 49), (some (43, false)), (.cvbs (.tmp 48))⟩ (.q 39 ⟨(some 56), (some (43, false)), (.bin .neq .other (.tmp 49) (.tmp 55))⟩ (.q 40 ⟨(some 57), none, (.pick (.tmp 43) (.const (.bool true)) (.tmp 56))⟩ (.done)))))))))))))))))))))))))))))))))))))))))))
@[reducible] def c47_t1 : LC := (.seq (.ops [⟨(some 4), none, (.mv (.const (.bool false)))⟩]) [4] .ret)
@[reducible] def c47_s4 : LC := (.ops [⟨(some 15), none, (.mv (.tmp 5))⟩, ⟨(some 16), none, (.bin .add .other (.tmp 15) (.const (.int .i64 1)))⟩, ⟨(some 5), none, (.mv (.tmp 16))⟩])
@[reducible] def c47_s3 : LC := (.seq (.block 1 (.seq (.draw c47_d0) [0, 1, 5, 57] (.cond (.tmp 57) c47_t1 .skip))) [0, 1, 5] c47_s4)
@[reducible] def c47_b0 : LC := (.seq (.seq (.ops [⟨(some 11), none, (.mv (.tmp 5))⟩, ⟨(some 12), none, (.mv (.tmp 0))⟩, ⟨(some 13), none, (.lenl (.tmp 12))⟩, ⟨(some 14), none, (.bin .lss .other (.tmp 11) (.tmp 13))⟩]) [0, 1, 5, 14] (.cond (.tmp 14) .skip (.exit 0))) [0, 1, 5] c47_s3)
@[reducible] def c47_l0 : LC := .loop [5] [0, 1] c47_b0
@[reducible] def c47_s2 : LC := (.block 0 c47_l0)
@[reducible] def c47_s5 : LC := (.seq (.ops [⟨(some 4), none, (.mv (.const (.bool true)))⟩]) [4] .ret)
@[reducible] def c47_s1 : LC := (.seq (.seq (.ops [⟨(some 5), none, (.mv (.const (.int .i64 0)))⟩]) [0, 1, 5] c47_s2) [] c47_s5)
@[reducible] def c47_s0 : LC := (.seq (.seq (.ops [⟨(some 6), none, (.mv (.tmp 0))⟩, ⟨(some 7), none, (.lenl (.tmp 6))⟩, ⟨(some 8), none, (.mv (.tmp 1))⟩, ⟨(some 9), none, (.lenl (.tmp 8))⟩, ⟨(some 10), none, (.bin .neq .other (.tmp 7) (.tmp 9))⟩]) [0, 1, 10] (.cond (.tmp 10) c47_t0 .skip)) [0, 1] c47_s1)
@[reducible] def c47 : LC := (.seq (.ops [⟨(some 4), none, (.mv (.const (.bool false)))⟩]) [0, 1] c47_s0)
theorem c47_low : lowC Try.prog ⟨0, 58⟩ (.seq .leaf [0, 1] (.seq (.seq .leaf [0, 1, 10] (.cond (.seq .leaf [4] .leaf) .leaf)) [0, 1] (.seq (.seq .leaf [0, 1, 5] (.block (.loop [5] [0, 1] (.seq (.seq .leaf [0, 1, 5, 14] (.cond .leaf .leaf)) [0, 1, 5] (.seq (.block (.seq (.draw [[], [], [0, 1], [0, 1, 2], [0, 1, 2, 3], [], [], [5, 6], [5, 6, 7], [5, 6, 7, 8], [0, 1, 2, 3, 4, 5, 6, 7, 8, 9], [0, 1, 2, 3, 4, 5, 6, 7, 8, 9, 10], [0, 4, 5, 11], [11], [0, 4, 5, 11, 12, 13], [0, 4, 5, 11, 12, 13, 14], [0, 4, 5, 11, 12, 13, 14, 15], [0, 1, 2, 3, 4, 5, 6, 7, 8, 9, 10, 11, 12, 13, 14, 15, 16], [2, 8, 11], [11], [2, 8, 11, 18, 19], [2, 8, 11, 18, 19, 20], [2, 8, 11, 18, 19, 20, 21], [0, 1, 2, 3, 4, 5, 6, 7, 8, 9, 10, 11, 18, 19, 20, 21, 22], [11, 12, 13, 14, 15, 16, 17, 18, 19, 20, 21, 22, 23], [1, 3, 6, 7, 9, 11, 12, 13, 14, 15, 16, 17, 18, 19, 20, 21, 22, 23, 24], [0, 1, 2, 3, 4, 5, 6, 7, 8, 9, 10, 11, 12, 13, 14, 15, 16, 17, 18, 19, 20, 21, 22, 23, 24, 25], [6, 10, 12, 16, 17, 20, 23, 26], [17, 23, 26], [6, 10, 12, 16, 17, 20, 23, 26, 27, 28], [6, 10, 12, 16, 17, 20, 23, 26, 27, 28, 29], [6, 10, 12, 16, 17, 20, 23, 26, 27, 28, 29, 30], [0, 1, 2, 3, 4, 5, 6, 7, 8, 9, 10, 11, 12, 13, 14, 15, 16, 17, 18, 19, 20, 21, 22, 23, 24, 25, 26, 27, 28, 29, 30, 31], [0, 1, 2, 3, 4, 5, 7, 8, 9, 13, 14, 15, 17, 18, 19, 21, 22, 23, 24, 26], [17, 23, 26], [0, 1, 2, 3, 4, 5, 7, 8, 9, 13, 14, 15, 17, 18, 19, 21, 22, 23, 24, 26, 33, 34], [0, 1, 2, 3, 4, 5, 7, 8, 9, 13, 14, 15, 17, 18, 19, 21, 22, 23, 24, 26, 33, 34, 35], [0, 1, 2, 3, 4, 5, 7, 8, 9, 13, 14, 15, 17, 18, 19, 21, 22, 23, 24, 26, 33, 34, 35, 36], [0, 1, 2, 3, 4, 5, 6, 7, 8, 9, 10, 11, 12, 13, 14, 15, 16, 17, 18, 19, 20, 21, 22, 23, 24, 25, 26, 33, 34, 35, 36, 37], [17, 23, 26, 32, 38], [17, 23, 26, 32, 38, 39]] (.q 0 (.q 1 (.q 2 (.q 3 (.q 4 (.q 5 (.q 6 (.q 7 (.q 8 (.q 9 (.q 10 (.q 11 (.q 12 (.q 13 (.q 14 (.q 15 (.q 16 (.q 18 (.q 19 (.q 20 (.q 21 (.q 22 (.al 17 [18, 19, 20, 21, 22] (.e 23 [12, 13, 14, 15, 16] (.q 24 (.q 25 (.q 26 (.q 27 (.q 28 (.q 29 (.q 30 (.q 31 (.q 33 (.q 34 (.q 35 (.q 36 (.q 37 (.al 32 [33, 34, 35, 36, 37] (.e 38 [27, 28, 29, 30, 31] (.q 39 (.q 40 (.done)))) (.e 38 [27, 28, 29, 30, 31] (.e 32 [33, 34, 35, 36, 37] (.q 39 (.q 40 (.done)))))))))))))))))))) (.e 23 [12, 13, 14, 15, 16] (.e 17 [18, 19, 20, 21, 22] (.q 24 (.q 25 (.q 26 (.q 27 (.q 28 (.q 29 (.q 30 (.q 31 (.q 33 (.q 34 (.q 35 (.q 36 (.q 37 (.al 32 [33, 34, 35, 36, 37] (.e 38 [27, 28, 29, 30, 31] (.q 39 (.q 40 (.done)))) (.e 38 [27, 28, 29, 30, 31] (.e 32 [33, 34, 35, 36, 37] (.q 39 (.q 40 (.done))))))))))))))))))))))))))))))))))))))))))))) [0, 1, 5, 57] (.cond (.seq .leaf [4] .leaf) .leaf))) [0, 1, 5] .leaf))))) [] (.seq .leaf [4] .leaf)))) (Try.f47.body.getD .skip) = c47 := by kernel_rfl
theorem c47_ce {args : List Value} (ha : args.length ≤ 58) {h : H} {R : Ending → H → Prop} (hv : vc Try.prog c47 (retQ [4] R) (argEnv args 0) h) : CallsE Try.prog 47 args.toArray h R :=
  callsE_of (res := [4]) Try.func47 rfl rfl rfl c47_low ha hv
theorem c47_ok {args : List Value} (ha : args.length ≤ 58) {h : H} {R : Value → H → Prop} (hv : vc Try.prog c47 (retQ [4] (okR R)) (argEnv args 0) h) : Ok Try.prog 47 args.toArray h R :=
  ok_of (res := [4]) Try.func47 rfl rfl rfl c47_low ha hv

@[reducible] def c48_s4 : LC := (.ops [⟨(some 18), none, (.mv (.tmp 0))⟩, ⟨(some 19), none, (.bin .quo .other (.tmp 18) (.const (.int .u64 256)))⟩, ⟨(some 0), none, (.mv (.tmp 19))⟩])
@[reducible] def c48_s5 : LC := (.ops [⟨(some 10), none, (.mv (.tmp 6))⟩, ⟨(some 11), none, (.bin .add .other (.tmp 10) (.const (.int .i64 1)))⟩, ⟨(some 6), none, (.mv (.tmp 11))⟩])
@[reducible] def c48_s3 : LC := (.seq (.block 1 (.seq (.ops [⟨(some 12), none, (.mv (.tmp 5))⟩, ⟨(some 13), none, (.mv (.tmp 0))⟩, ⟨(some 14), none, (.bin .rem .other (.tmp 13) (.const (.int .u64 256)))⟩, ⟨(some 15), none, (.cvi .u8 (.tmp 14))⟩, ⟨(some 16), none, (.lit 5 1 #[(.int .u8 0)] [(0, 1, (.tmp 15))])⟩, ⟨(some 17), none, (.app 5 1 1 #[(.int .u8 0)] (.tmp 12) (.tmp 16))⟩, ⟨(some 5), none, (.mv (.tmp 17))⟩]) [0, 1, 5, 6] c48_s4)) [0, 1, 5, 6] c48_s5)
@[reducible] def c48_b0 : LC := (.seq (.seq (.ops [⟨(some 7), none, (.mv (.tmp 6))⟩, ⟨(some 8), none, (.mv (.tmp 1))⟩, ⟨(some 9), none, (.bin .lss .other (.tmp 7) (.tmp 8))⟩]) [0, 1, 5, 6, 9] (.cond (.tmp 9) .skip (.exit 0))) [0, 1, 5, 6] c48_s3)
@[reducible] def c48_l0 : LC := .loop [0, 5, 6] [1] c48_b0
@[reducible] def c48_s2 : LC := (.block 0 c48_l0)
@[reducible] def c48_s6 : LC := (.seq (.ops [⟨(some 20), none, (.mv (.tmp 5))⟩, ⟨(some 4), none, (.mv (.tmp 20))⟩]) [4] .ret)
@[reducible] def c48_s1 : LC := (.seq (.seq (.ops [⟨(some 6), none, (.mv (.const (.int .i64 0)))⟩]) [0, 1, 5, 6] c48_s2) [5] c48_s6)
@[reducible] def c48_s0 : LC := (.seq (.ops [⟨(some 5), none, (.mv (.const (.slice none 0 0)))⟩]) [0, 1, 5] c48_s1)
@[reducible] def c48 : LC := (.seq (.ops [⟨(some 4), none, (.mv (.const (.slice none 0 0)))⟩]) [0, 1] c48_s0)
theorem c48_low : lowC Try.prog ⟨0, 21⟩ (.seq .leaf [0, 1] (.seq .leaf [0, 1, 5] (.seq (.seq .leaf [0, 1, 5, 6] (.block (.loop [0, 5, 6] [1] (.seq (.seq .leaf [0, 1, 5, 6, 9] (.cond .leaf .leaf)) [0, 1, 5, 6] (.seq (.block (.seq .leaf [0, 1, 5, 6] .leaf)) [0, 1, 5, 6] .leaf))))) [5] (.seq .leaf [4] .leaf)))) (Try.f48.body.getD .skip) = c48 := by kernel_rfl
theorem c48_ce {args : List Value} (ha : args.length ≤ 21) {h : H} {R : Ending → H → Prop} (hv : vc Try.prog c48 (retQ [4] R) (argEnv args 0) h) : CallsE Try.prog 48 args.toArray h R :=
  callsE_of (res := [4]) Try.func48 rfl rfl rfl c48_low ha hv
theorem c48_ok {args : List Value} (ha : args.length ≤ 21) {h : H} {R : Value → H → Prop} (hv : vc Try.prog c48 (retQ [4] (okR R)) (argEnv args 0) h) : Ok Try.prog 48 args.toArray h R :=
  ok_of (res := [4]) Try.func48 rfl rfl rfl c48_low ha hv

@[reducible] def c49_s5 : LC := (.ops [⟨(some 32), none, (.mv (.tmp 3))⟩, ⟨(some 33), none, (.mv (.tmp 0))⟩, ⟨(some 34), none, (.mv (.tmp 4))⟩, ⟨(some 35), none, (.idx 3 (.tmp 33) (.tmp 34))⟩, ⟨(some 36), none, (.lea 2 (.tmp 35))⟩, ⟨(some 37), none, (.ld (.tmp 36))⟩, ⟨(some 38), none, (.call 76 [(.tmp 37)])⟩, ⟨(some 39), none, (.app 5 1 1 #[(.int .u8 0)] (.tmp 32) (.tmp 38))⟩, ⟨(some 3), none, (.mv (.tmp 39))⟩])
@[reducible] def c49_s4 : LC := (.seq (.ops [⟨(some 24), none, (.mv (.tmp 3))⟩, ⟨(some 25), none, (.mv (.tmp 0))⟩, ⟨(some 26), none, (.mv (.tmp 4))⟩, ⟨(some 27), none, (.idx 3 (.tmp 25) (.tmp 26))⟩, ⟨(some 28), none, (.lea 1 (.tmp 27))⟩, ⟨(some 29), none, (.ld (.tmp 28))⟩, ⟨(some 30), none, (.call 76 [(.tmp 29)])⟩, ⟨(some 31), none, (.app 5 1 1 #[(.int .u8 0)] (.tmp 24) (.tmp 30))⟩, ⟨(some 3), none, (.mv (.tmp 31))⟩]) [0, 3, 4] c49_s5)
@[reducible] def c49_s6 : LC := (.ops [⟨(some 13), none, (.mv (.tmp 4))⟩, ⟨(some 14), none, (.bin .add .other (.tmp 13) (.const (.int .i64 1)))⟩, ⟨(some 4), none, (.mv (.tmp 14))⟩])
@[reducible] def c49_s3 : LC := (.seq (.block 1 (.seq (.ops [⟨(some 15), none, (.mv (.tmp 3))⟩, ⟨(some 16), none, (.mv (.tmp 0))⟩, ⟨(some 17), none, (.mv (.tmp 4))⟩, ⟨(some 18), none, (.idx 3 (.tmp 16) (.tmp 17))⟩, ⟨(some 19), none, (.lea 0 (.tmp 18))⟩, ⟨(some 20), none, (.ld (.tmp 19))⟩, ⟨(some 21), none, (.cvi .u64 (.tmp 20))⟩, ⟨(some 22), none, (.call 48 [(.tmp 21), (.const (.int .i64 8))])⟩, ⟨(some 23), none, (.app 5 1 1 #[(.int .u8 0)] (.tmp 15) (.tmp 22))⟩, ⟨(some 3), none, (.mv (.tmp 23))⟩]) [0, 3, 4] c49_s4)) [0, 3, 4] c49_s6)
@[reducible] def c49_b0 : LC := (.seq (.seq (.ops [⟨(some 9), none, (.mv (.tmp 4))⟩, ⟨(some 10), none, (.mv (.tmp 0))⟩, ⟨(some 11), none, (.lenl (.tmp 10))⟩, ⟨(some 12), none, (.bin .lss .other (.tmp 9) (.tmp 11))⟩]) [0, 3, 4, 12] (.cond (.tmp 12) .skip (.exit 0))) [0, 3, 4] c49_s3)
@[reducible] def c49_l0 : LC := .loop [3, 4] [0] c49_b0
@[reducible] def c49_s2 : LC := (.block 0 c49_l0)
@[reducible] def c49_s7 : LC := (.seq (.ops [⟨(some 40), none, (.mv (.tmp 3))⟩, ⟨(some 2), none, (.mv (.tmp 40))⟩]) [2] .ret)
@[reducible] def c49_s1 : LC := (.seq (.seq (.ops [⟨(some 4), none, (.mv (.const (.int .i64 0)))⟩]) [0, 3, 4] c49_s2) [3] c49_s7)
@[reducible] def c49_s0 : LC := (.seq (.ops [⟨(some 5), none, (.mv (.tmp 0))⟩, ⟨(some 6), none, (.lenl (.tmp 5))⟩, ⟨(some 7), none, (.cvi .u64 (.tmp 6))⟩, ⟨(some 8), none, (.call 48 [(.tmp 7), (.const (.int .i64 4))])⟩, ⟨(some 3), none, (.mv (.tmp 8))⟩]) [0, 3] c49_s1)
@[reducible] def c49 : LC := (.seq (.ops [⟨(some 2), none, (.mv (.const (.slice none 0 0)))⟩]) [0] c49_s0)
theorem c49_low : lowC Try.prog ⟨0, 41⟩ (.seq .leaf [0] (.seq .leaf [0, 3] (.seq (.seq .leaf [0, 3, 4] (.block (.loop [3, 4] [0] (.seq (.seq .leaf [0, 3, 4, 12] (.cond .leaf .leaf)) [0, 3, 4] (.seq (.block (.seq .leaf [0, 3, 4] (.seq .leaf [0, 3, 4] .leaf))) [0, 3, 4] .leaf))))) [3] (.seq .leaf [2] .leaf)))) (Try.f49.body.getD .skip) = c49 := by kernel_rfl
theorem c49_ce {args : List Value} (ha : args.length ≤ 41) {h : H} {R : Ending → H → Prop} (hv : vc Try.prog c49 (retQ [2] R) (argEnv args 0) h) : CallsE Try.prog 49 args.toArray h R :=
  callsE_of (res := [2]) Try.func49 rfl rfl rfl c49_low ha hv
theorem c49_ok {args : List Value} (ha : args.length ≤ 41) {h : H} {R : Value → H → Prop} (hv : vc Try.prog c49 (retQ [2] (okR R)) (argEnv args 0) h) : Ok Try.prog 49 args.toArray h R :=
  ok_of (res := [2]) Try.func49 rfl rfl rfl c49_low ha hv

@[reducible] def c50_s1 : LC := (.seq (.ops [⟨(some 14), none, (.mv (.tmp 3))⟩, ⟨(some 15), none, (.mv (.tmp 0))⟩, ⟨(some 16), none, (.app 5 1 1 #[(.int .u8 0)] (.tmp 14) (.tmp 15))⟩, ⟨(some 2), none, (.mv (.tmp 16))⟩]) [2] .ret)
@[reducible] def c50_s0 : LC := (.seq (.ops [⟨(some 4), none, (.mv (.tmp 0))⟩, ⟨(some 5), none, (.lenl (.tmp 4))⟩, ⟨(some 6), none, (.bin .add .other (.tmp 5) (.const (.int .i64 4)))⟩, ⟨(some 7), none, (.cvi .u64 (.tmp 6))⟩, ⟨(some 8), none, (.call 48 [(.tmp 7), (.const (.int .i64 4))])⟩, ⟨(some 9), none, (.mv (.tmp 0))⟩, ⟨(some 10), none, (.call 77 [(.tmp 9)])⟩, ⟨(some 11), none, (.cvi .u64 (.tmp 10))⟩, ⟨(some 12), none, (.call 48 [(.tmp 11), (.const (.int .i64 4))])⟩, ⟨(some 13), none, (.app 5 1 1 #[(.int .u8 0)] (.tmp 8) (.tmp 12))⟩, ⟨(some 3), none, (.mv (.tmp 13))⟩]) [0, 3] c50_s1)
@[reducible] def c50 : LC := (.seq (.ops [⟨(some 2), none, (.mv (.const (.slice none 0 0)))⟩]) [0] c50_s0)
theorem c50_low : lowC Try.prog ⟨0, 17⟩ (.seq .leaf [0] (.seq .leaf [0, 3] (.seq .leaf [2] .leaf))) (Try.f50.body.getD .skip) = c50 := by kernel_rfl
theorem c50_ce {args : List Value} (ha : args.length ≤ 17) {h : H} {R : Ending → H → Prop} (hv : vc Try.prog c50 (retQ [2] R) (argEnv args 0) h) : CallsE Try.prog 50 args.toArray h R :=
  callsE_of (res := [2]) Try.func50 rfl rfl rfl c50_low ha hv
theorem c50_ok {args : List Value} (ha : args.length ≤ 17) {h : H} {R : Value → H → Prop} (hv : vc Try.prog c50 (retQ [2] (okR R)) (argEnv args 0) h) : Ok Try.prog 50 args.toArray h R :=
  ok_of (res := [2]) Try.func50 rfl rfl rfl c50_low ha hv

@[reducible] def c51_t0 : LC := (.seq (.ops [⟨(some 2), none, (.mv (.const (.slice none 0 0)))⟩]) [2] .ret)
@[reducible] def c51_s1 : LC := (.seq (.ops [⟨(some 5), none, (.lit 5 0 #[] [])⟩, ⟨(some 6), none, (.mv (.tmp 0))⟩, ⟨(some 7), none, (.app 5 1 1 #[(.int .u8 0)] (.tmp 5) (.tmp 6))⟩, ⟨(some 2), none, (.mv (.tmp 7))⟩]) [2] .ret)
@[reducible] def c51_s0 : LC := (.seq (.seq (.ops [⟨(some 3), none, (.mv (.tmp 0))⟩, ⟨(some 4), none, (.bin .eql .slice (.tmp 3) (.const (.slice none 0 0)))⟩]) [0, 4] (.cond (.tmp 4) c51_t0 .skip)) [0] c51_s1)
@[reducible] def c51 : LC := (.seq (.ops [⟨(some 2), none, (.mv (.const (.slice none 0 0)))⟩]) [0] c51_s0)
theorem c51_low : lowC Try.prog ⟨0, 8⟩ (.seq .leaf [0] (.seq (.seq .leaf [0, 4] (.cond (.seq .leaf [2] .leaf) .leaf)) [0] (.seq .leaf [2] .leaf))) (Try.f51.body.getD .skip) = c51 := by kernel_rfl
theorem c51_ce {args : List Value} (ha : args.length ≤ 8) {h : H} {R : Ending → H → Prop} (hv : vc Try.prog c51 (retQ [2] R) (argEnv args 0) h) : CallsE Try.prog 51 args.toArray h R :=
  callsE_of (res := [2]) Try.func51 rfl rfl rfl c51_low ha hv
theorem c51_ok {args : List Value} (ha : args.length ≤ 8) {h : H} {R : Value → H → Prop} (hv : vc Try.prog c51 (retQ [2] (okR R)) (argEnv args 0) h) : Ok Try.prog 51 args.toArray h R :=
  ok_of (res := [2]) Try.func51 rfl rfl rfl c51_low ha hv

@[reducible] def c52_s2 : LC := (.ops [⟨(some 24), none, (.mv (.tmp 3))⟩, ⟨(some 25), none, (.mv (.tmp 5))⟩, ⟨(some 26), none, (.bin .add .other (.tmp 24) (.tmp 25))⟩, ⟨(some 3), none, (.mv (.tmp 26))⟩])
@[reducible] def c52_s1 : LC := (.seq (.seq (.ops [⟨(some 15), none, (.mv (.tmp 6))⟩, ⟨(some 16), none, (.bin .neq .other (.tmp 15) (.const (.int .i64 0)))⟩, ⟨(some 17), none, (.mv (.tmp 16))⟩, ⟨(some 18), (some (17, false)), (.mv (.tmp 0))⟩, ⟨(some 19), (some (17, false)), (.mv (.tmp 3))⟩, ⟨(some 20), (some (17, false)), (.mv (.tmp 4))⟩, ⟨(some 21), (some (17, false)), (.callv (.tmp 18) [(.tmp 19), (.tmp 20)])⟩, ⟨(some 22), (some (17, false)), (.un .not (.tmp 21))⟩, ⟨(some 23), none, (.pick (.tmp 17) (.const (.bool true)) (.tmp 22))⟩]) [0, 1, 3, 5, 23] (.cond (.tmp 23) .ret .skip)) [0, 1, 3, 5] c52_s2)
@[reducible] def c52_b0 : LC := (.block 1 (.seq (.ops [⟨(some 8), none, (.ld (.tmp 1))⟩, ⟨(some 9), none, (.mv (.tmp 3))⟩, ⟨(some 10), none, (.slc 1 (.tmp 8) (some (.tmp 9)) none none)⟩, ⟨(some 11), none, (.call 21 [(.tmp 10)])⟩, ⟨(some 7), none, (.mv (.tmp 11))⟩, ⟨(some 12), none, (.ext (.tmp 7) 0)⟩, ⟨(some 13), none, (.ext (.tmp 7) 1)⟩, ⟨(some 14), none, (.ext (.tmp 7) 2)⟩, ⟨(some 4), none, (.mv (.tmp 12))⟩, ⟨(some 5), none, (.mv (.tmp 13))⟩, ⟨(some 6), none, (.mv (.tmp 14))⟩]) [0, 1, 3, 4, 5, 6] c52_s1))
@[reducible] def c52_l0 : LC := .loop [3] [0, 1] c52_b0
@[reducible] def c52_s0 : LC := (.block 0 c52_l0)
@[reducible] def c52 : LC := (.seq (.ops [⟨(some 3), none, (.mv (.const (.int .i64 0)))⟩]) [0, 1, 3] c52_s0)
theorem c52_low : lowC Try.prog ⟨0, 27⟩ (.seq .leaf [0, 1, 3] (.block (.loop [3] [0, 1] (.block (.seq .leaf [0, 1, 3, 4, 5, 6] (.seq (.seq .leaf [0, 1, 3, 5, 23] (.cond .leaf .leaf)) [0, 1, 3, 5] .leaf)))))) (Try.f52.body.getD .skip) = c52 := by kernel_rfl
theorem c52_ce {args : List Value} (ha : args.length ≤ 27) {h : H} {R : Ending → H → Prop} (hv : vc Try.prog c52 (retQ [] R) (argEnv args 0) h) : CallsE Try.prog 52 args.toArray h R :=
  callsE_of (res := []) Try.func52 rfl rfl rfl c52_low ha hv
theorem c52_ok {args : List Value} (ha : args.length ≤ 27) {h : H} {R : Value → H → Prop} (hv : vc Try.prog c52 (retQ [] (okR R)) (argEnv args 0) h) : Ok Try.prog 52 args.toArray h R :=
  ok_of (res := []) Try.func52 rfl rfl rfl c52_low ha hv

@[reducible] def c53_s0 : LC := (.seq (.ops [⟨(some 3), none, (.mv (.tmp 0))⟩, ⟨(some 4), none, (.call 51 [(.tmp 3)])⟩, ⟨(some 5), none, (.agg #[(.slice none 0 0), (.int .i64 0), (.bool false)] [(0, 1, (.tmp 4)), (2, 1, (.const (.bool true)))])⟩, ⟨(some 6), none, (.box 134 (.tmp 5))⟩, ⟨(some 2), none, (.mv (.tmp 6))⟩]) [2] .ret)
@[reducible] def c53 : LC := (.seq (.ops [⟨(some 2), none, (.mv (.const (.pointer none)))⟩]) [0] c53_s0)
theorem c53_low : lowC Try.prog ⟨0, 7⟩ (.seq .leaf [0] (.seq .leaf [2] .leaf)) (Try.f53.body.getD .skip) = c53 := by kernel_rfl
theorem c53_ce {args : List Value} (ha : args.length ≤ 7) {h : H} {R : Ending → H → Prop} (hv : vc Try.prog c53 (retQ [2] R) (argEnv args 0) h) : CallsE Try.prog 53 args.toArray h R :=
  callsE_of (res := [2]) Try.func53 rfl rfl rfl c53_low ha hv
theorem c53_ok {args : List Value} (ha : args.length ≤ 7) {h : H} {R : Value → H → Prop} (hv : vc Try.prog c53 (retQ [2] (okR R)) (argEnv args 0) h) : Ok Try.prog 53 args.toArray h R :=
  ok_of (res := [2]) Try.func53 rfl rfl rfl c53_low ha hv

@[reducible] def c54_s1 : LC := (.seq (.ops [⟨(some 11), none, (.mv (.tmp 4))⟩, ⟨(some 12), none, (.cvi .u32 (.tmp 11))⟩, ⟨(some 13), none, (.mv (.tmp 5))⟩, ⟨(some 2), none, (.mv (.tmp 12))⟩, ⟨(some 3), none, (.mv (.tmp 13))⟩]) [2, 3] .ret)
@[reducible] def c54_s0 : LC := (.seq (.ops [⟨(some 7), none, (.mv (.tmp 0))⟩, ⟨(some 8), none, (.call 78 [(.tmp 7), (.const (.int .i64 4))])⟩, ⟨(some 6), none, (.mv (.tmp 8))⟩, ⟨(some 9), none, (.ext (.tmp 6) 0)⟩, ⟨(some 10), none, (.ext (.tmp 6) 1)⟩, ⟨(some 4), none, (.mv (.tmp 9))⟩, ⟨(some 5), none, (.mv (.tmp 10))⟩]) [4, 5] c54_s1)
@[reducible] def c54 : LC := (.seq (.ops [⟨(some 2), none, (.mv (.const (.int .u32 0)))⟩, ⟨(some 3), none, (.mv (.const (.int .i64 0)))⟩]) [0] c54_s0)
theorem c54_low : lowC Try.prog ⟨0, 14⟩ (.seq .leaf [0] (.seq .leaf [4, 5] (.seq .leaf [2, 3] .leaf))) (Try.f54.body.getD .skip) = c54 := by kernel_rfl
theorem c54_ce {args : List Value} (ha : args.length ≤ 14) {h : H} {R : Ending → H → Prop} (hv : vc Try.prog c54 (retQ [2, 3] R) (argEnv args 0) h) : CallsE Try.prog 54 args.toArray h R :=
  callsE_of (res := [2, 3]) Try.func54 rfl rfl rfl c54_low ha hv
theorem c54_ok {args : List Value} (ha : args.length ≤ 14) {h : H} {R : Value → H → Prop} (hv : vc Try.prog c54 (retQ [2, 3] (okR R)) (argEnv args 0) h) : Ok Try.prog 54 args.toArray h R :=
  ok_of (res := [2, 3]) Try.func54 rfl rfl rfl c54_low ha hv

@[reducible] def c55_s5 : LC := (.ops [⟨(some 12), none, (.mv (.tmp 3))⟩, ⟨(some 13), none, (.mv (.tmp 5))⟩, ⟨(some 14), none, (.call 79 [(.tmp 12), (.tmp 13)])⟩, ⟨(some 3), none, (.mv (.tmp 14))⟩])
@[reducible] def c55_s6 : LC := (.ops [⟨(some 15), none, (.bin .add .other (.tmp 8) (.const (.int .i64 1)))⟩, ⟨(some 8), none, (.mv (.tmp 15))⟩])
@[reducible] def c55_s4 : LC := (.seq (.block 1 (.seq (.ops [⟨(some 10), none, (.idx 1 (.tmp 6) (.tmp 8))⟩, ⟨(some 11), none, (.ld (.tmp 10))⟩, ⟨(some 5), none, (.mv (.tmp 11))⟩]) [3, 5, 6, 7, 8] c55_s5)) [3, 6, 7, 8] c55_s6)
@[reducible] def c55_s3 : LC := (.seq (.cond (.tmp 9) .skip (.exit 0)) [3, 6, 7, 8] c55_s4)
@[reducible] def c55_b0 : LC := (.seq (.ops [⟨(some 9), none, (.bin .lss .other (.tmp 8) (.tmp 7))⟩]) [3, 6, 7, 8, 9] c55_s3)
@[reducible] def c55_l0 : LC := .loop [3, 8] [6, 7] c55_b0
@[reducible] def c55_s2 : LC := (.block 0 c55_l0)
@[reducible] def c55_s7 : LC := (.seq (.ops [⟨(some 16), none, (.mv (.tmp 3))⟩, ⟨(some 17), none, (.un .xor (.tmp 16))⟩, ⟨(some 2), none, (.mv (.tmp 17))⟩]) [2] .ret)
@[reducible] def c55_s1 : LC := (.seq (.seq (.ops [⟨(some 6), none, (.mv (.tmp 0))⟩, ⟨(some 7), none, (.lenl (.tmp 6))⟩, ⟨(some 8), none, (.mv (.const (.int .i64 0)))⟩]) [3, 6, 7, 8] c55_s2) [3] c55_s7)
@[reducible] def c55_s0 : LC := (.seq (.ops [⟨(some 3), none, (.mv (.const (.int .u32 4294967295)))⟩]) [0, 3] c55_s1)
@[reducible] def c55 : LC := (.seq (.ops [⟨(some 2), none, (.mv (.const (.int .u32 0)))⟩]) [0] c55_s0)
theorem c55_low : lowC Try.prog ⟨0, 18⟩ (.seq .leaf [0] (.seq .leaf [0, 3] (.seq (.seq .leaf [3, 6, 7, 8] (.block (.loop [3, 8] [6, 7] (.seq .leaf [3, 6, 7, 8, 9] (.seq (.cond .leaf .leaf) [3, 6, 7, 8] (.seq (.block (.seq .leaf [3, 5, 6, 7, 8] .leaf)) [3, 6, 7, 8] .leaf)))))) [3] (.seq .leaf [2] .leaf)))) (Try.f55.body.getD .skip) = c55 := by kernel_rfl
theorem c55_ce {args : List Value} (ha : args.length ≤ 18) {h : H} {R : Ending → H → Prop} (hv : vc Try.prog c55 (retQ [2] R) (argEnv args 0) h) : CallsE Try.prog 55 args.toArray h R :=
  callsE_of (res := [2]) Try.func55 rfl rfl rfl c55_low ha hv
theorem c55_ok {args : List Value} (ha : args.length ≤ 18) {h : H} {R : Value → H → Prop} (hv : vc Try.prog c55 (retQ [2] (okR R)) (argEnv args 0) h) : Ok Try.prog 55 args.toArray h R :=
  ok_of (res := [2]) Try.func55 rfl rfl rfl c55_low ha hv

@[reducible] def c56_t0 : LC := (.seq (.ops [⟨(some 2), none, (.mv (.const (.int .i64 1)))⟩]) [2] .ret)
@[reducible] def c56_t2 : LC := (.seq (.ops [⟨(some 2), none, (.mv (.const (.int .i64 300)))⟩]) [2] .ret)
@[reducible] def c56_t1 : LC := (.seq (.ops [⟨(some 14), none, (.mv (.tmp 0))⟩, ⟨(some 15), none, (.nilck (.tmp 14))⟩, ⟨(some 16), none, (.lea 2 (.tmp 15))⟩, ⟨(some 17), none, (.ld (.tmp 16))⟩, ⟨(some 13), none, (.mv (.tmp 17))⟩]) [13] (.cond (.tmp 13) c56_t2 .skip))
@[reducible] def c56_s1 : LC := (.seq (.ops [⟨(some 2), none, (.mv (.const (.int .i64 0)))⟩]) [2] .ret)
@[reducible] def c56_s0 : LC := (.seq (.block 0 (.seq (.ops [⟨(some 4), none, (.mv (.tmp 0))⟩, ⟨(some 5), none, (.bin .eql .ptr (.tmp 4) (.const (.pointer none)))⟩, ⟨(some 6), none, (.mv (.tmp 5))⟩, ⟨(some 7), (some (6, false)), (.mv (.tmp 0))⟩, ⟨(some 8), (some (6, false)), (.nilck (.tmp 7))⟩, ⟨(some 9), (some (6, false)), (.lea 1 (.tmp 8))⟩, ⟨(some 10), (some (6, false)), (.ld (.tmp 9))⟩, ⟨(some 11), (some (6, false)), (.un .not (.tmp 10))⟩, ⟨(some 12), none, (.pick (.tmp 6) (.const (.bool true)) (.tmp 11))⟩, ⟨(some 3), none, (.mv (.tmp 12))⟩]) [0, 3] (.cond (.tmp 3) c56_t0 c56_t1))) [] c56_s1)
@[reducible] def c56 : LC := (.seq (.ops [⟨(some 2), none, (.mv (.const (.int .i64 0)))⟩]) [0] c56_s0)
theorem c56_low : lowC Try.prog ⟨0, 18⟩ (.seq .leaf [0] (.seq (.block (.seq .leaf [0, 3] (.cond (.seq .leaf [2] .leaf) (.seq .leaf [13] (.cond (.seq .leaf [2] .leaf) .leaf))))) [] (.seq .leaf [2] .leaf))) (Try.f56.body.getD .skip) = c56 := by kernel_rfl
theorem c56_ce {args : List Value} (ha : args.length ≤ 18) {h : H} {R : Ending → H → Prop} (hv : vc Try.prog c56 (retQ [2] R) (argEnv args 0) h) : CallsE Try.prog 56 args.toArray h R :=
  callsE_of (res := [2]) Try.func56 rfl rfl rfl c56_low ha hv
theorem c56_ok {args : List Value} (ha : args.length ≤ 18) {h : H} {R : Value → H → Prop} (hv : vc Try.prog c56 (retQ [2] (okR R)) (argEnv args 0) h) : Ok Try.prog 56 args.toArray h R :=
  ok_of (res := [2]) Try.func56 rfl rfl rfl c56_low ha hv

@[reducible] def c57_t0 : LC := (.seq (.ops [⟨(some 2), none, (.mv (.const (.slice none 0 0)))⟩, ⟨(some 3), none, (.mv (.const (.int .i64 0)))⟩, ⟨(some 4), none, (.mv (.const (.int .i64 111)))⟩]) [2, 3, 4] .ret)
@[reducible] def c57_t1 : LC := (.seq (.ops [⟨(some 2), none, (.mv (.const (.slice none 0 0)))⟩, ⟨(some 3), none, (.mv (.const (.int .i64 0)))⟩, ⟨(some 4), none, (.mv (.const (.int .i64 300)))⟩]) [2, 3, 4] .ret)
@[reducible] def c57_t2 : LC := (.seq (.ops [⟨(some 2), none, (.mv (.const (.slice none 0 0)))⟩, ⟨(some 3), none, (.mv (.const (.int .i64 0)))⟩, ⟨(some 4), none, (.mv (.const (.int .i64 111)))⟩]) [2, 3, 4] .ret)
@[reducible] def c57_d0 : DT := .q 0 ⟨(some 28), none, (.mv (.tmp 0))⟩ (.q 1 ⟨(some 29), none, (.slc 1 (.tmp 28) (some (.const (.int .i64 4))) (some (.const (.int .i64 8))) none)⟩ (.q 3 ⟨(some 31), none, (.mv (.tmp 0))⟩ (.q 4 ⟨(some 32), none, (.mv (.tmp 6))⟩ (.q 5 ⟨(some 33), none, (.slc 1 (.tmp 31) (some (.const (.int .i64 8))) (some (.tmp 32)) none)⟩ (.e 2 [3, 4, 5] ⟨(some 30), none, (.call 80 [(.tmp 29)])⟩ (.e 6 [] ⟨(some 34), none, (.call 77 [(.tmp 33)])⟩ (.q 7 ⟨(some 35), none, (.cvi .u64 (.tmp 34))⟩ (.q 8 ⟨(some 36), none, (.bin .neq .other (.tmp 30) (.tmp 35))⟩ (.done)))))))))
@[reducible] def c57_t3 : LC := (.seq (.ops [⟨(some 2), none, (.mv (.const (.slice none 0 0)))⟩, ⟨(some 3), none, (.mv (.const (.int .i64 0)))⟩, ⟨(some 4), none, (.mv (.const (.int .i64 300)))⟩]) [2, 3, 4] .ret)
@[reducible] def c57_s6 : LC := (.seq (.ops [⟨(some 37), none, (.mv (.tmp 0))⟩, ⟨(some 38), none, (.mv (.tmp 6))⟩, ⟨(some 39), none, (.slc 1 (.tmp 37) (some (.const (.int .i64 8))) (some (.tmp 38)) none)⟩, ⟨(some 40), none, (.mv (.tmp 6))⟩, ⟨(some 2), none, (.mv (.tmp 39))⟩, ⟨(some 3), none, (.mv (.tmp 40))⟩, ⟨(some 4), none, (.mv (.const (.int .i64 0)))⟩]) [2, 3, 4] .ret)
@[reducible] def c57_s5 : LC := (.seq (.seq (.draw c57_d0) [0, 6, 36] (.cond (.tmp 36) c57_t3 .skip)) [0, 6] c57_s6)
@[reducible] def c57_s4 : LC := (.seq (.ops [⟨(some 25), none, (.mv (.tmp 5))⟩, ⟨(some 26), none, (.cvi .i64 (.tmp 25))⟩, ⟨(some 27), none, (.bin .add .other (.tmp 26) (.const (.int .i64 4)))⟩, ⟨(some 6), none, (.mv (.tmp 27))⟩]) [0, 6] c57_s5)
@[reducible] def c57_s3 : LC := (.seq (.seq (.ops [⟨(some 19), none, (.mv (.tmp 5))⟩, ⟨(some 20), none, (.mv (.tmp 0))⟩, ⟨(some 21), none, (.lenl (.tmp 20))⟩, ⟨(some 22), none, (.bin .sub .other (.tmp 21) (.const (.int .i64 4)))⟩, ⟨(some 23), none, (.cvi .u64 (.tmp 22))⟩, ⟨(some 24), none, (.bin .gtr .other (.tmp 19) (.tmp 23))⟩]) [0, 5, 24] (.cond (.tmp 24) c57_t2 .skip)) [0, 5] c57_s4)
@[reducible] def c57_s2 : LC := (.seq (.seq (.ops [⟨(some 13), none, (.mv (.tmp 5))⟩, ⟨(some 14), none, (.bin .lss .other (.tmp 13) (.const (.int .u64 5)))⟩, ⟨(some 15), none, (.mv (.tmp 14))⟩, ⟨(some 16), (some (15, false)), (.mv (.tmp 5))⟩, ⟨(some 17), (some (15, false)), (.bin .gtr .other (.tmp 16) (.const (.int .u64 1048572)))⟩, ⟨(some 18), none, (.pick (.tmp 15) (.const (.bool true)) (.tmp 17))⟩]) [0, 5, 18] (.cond (.tmp 18) c57_t1 .skip)) [0, 5] c57_s3)
@[reducible] def c57_s1 : LC := (.seq (.ops [⟨(some 10), none, (.mv (.tmp 0))⟩, ⟨(some 11), none, (.slc 1 (.tmp 10) none (some (.const (.int .i64 4))) none)⟩, ⟨(some 12), none, (.call 80 [(.tmp 11)])⟩, ⟨(some 5), none, (.mv (.tmp 12))⟩]) [0, 5] c57_s2)
@[reducible] def c57_s0 : LC := (.seq (.seq (.ops [⟨(some 7), none, (.mv (.tmp 0))⟩, ⟨(some 8), none, (.lenl (.tmp 7))⟩, ⟨(some 9), none, (.bin .lss .other (.tmp 8) (.const (.int .i64 4)))⟩]) [0, 9] (.cond (.tmp 9) c57_t0 .skip)) [0] c57_s1)
@[reducible] def c57 : LC := (.seq (.ops [⟨(some 2), none, (.mv (.const (.slice none 0 0)))⟩, ⟨(some 3), none, (.mv (.const (.int .i64 0)))⟩, ⟨(some 4), none, (.mv (.const (.int .i64 0)))⟩]) [0] c57_s0)
theorem c57_low : lowC Try.prog ⟨0, 41⟩ (.seq .leaf [0] (.seq (.seq .leaf [0, 9] (.cond (.seq .leaf [2, 3, 4] .leaf) .leaf)) [0] (.seq .leaf [0, 5] (.seq (.seq .leaf [0, 5, 18] (.cond (.seq .leaf [2, 3, 4] .leaf) .leaf)) [0, 5] (.seq (.seq .leaf [0, 5, 24] (.cond (.seq .leaf [2, 3, 4] .leaf) .leaf)) [0, 5] (.seq .leaf [0, 6] (.seq (.seq (.draw [[], [0], [0, 1], [], [], [3, 4], [0, 1, 2, 3, 4, 5], [2, 6], [2, 6, 7]] (.q 0 (.q 1 (.q 3 (.q 4 (.q 5 (.e 2 [3, 4, 5] (.e 6 [] (.q 7 (.q 8 (.done))))))))))) [0, 6, 36] (.cond (.seq .leaf [2, 3, 4] .leaf) .leaf)) [0, 6] (.seq .leaf [2, 3, 4] .leaf)))))))) (Try.f57.body.getD .skip) = c57 := by kernel_rfl
theorem c57_ce {args : List Value} (ha : args.length ≤ 41) {h : H} {R : Ending → H → Prop} (hv : vc Try.prog c57 (retQ [2, 3, 4] R) (argEnv args 0) h) : CallsE Try.prog 57 args.toArray h R :=
  callsE_of (res := [2, 3, 4]) Try.func57 rfl rfl rfl c57_low ha hv
theorem c57_ok {args : List Value} (ha : args.length ≤ 41) {h : H} {R : Value → H → Prop} (hv : vc Try.prog c57 (retQ [2, 3, 4] (okR R)) (argEnv args 0) h) : Ok Try.prog 57 args.toArray h R :=
  ok_of (res := [2, 3, 4]) Try.func57 rfl rfl rfl c57_low ha hv

@[reducible] def c58_t0 : LC := (.seq (.ops [⟨(some 4), none, (.mv (.const (.bool false)))⟩]) [4] .ret)
@[reducible] def c58_d0 : DT := .q 0 ⟨(some 16), none, (.mv (.tmp 0))⟩ (.q 1 ⟨(some 17), none, (.mv (.tmp 5))⟩ (.q 2 ⟨(some 18), none, (.idx 1 (.tmp 16) (.tmp 17))⟩ (.q 3 ⟨(some 19), none, (.ld (.tmp 18))⟩ (.q 4 ⟨(some 20), none, (.mv (.tmp 1))⟩ (.q 5 ⟨(some 21), none, (.mv (.tmp 5))⟩ (.q 6 ⟨(some 22), none, (.idx 1 (.tmp 20) (.tmp 21))⟩ (.q 7 ⟨(some 23), none, (.ld (.tmp 22))⟩ (.q 8 ⟨(some 24), none, (.bin .neq .other (.tmp 19) (.tmp 23))⟩ (.done)))))))))
@[reducible] def c58_t1 : LC := (.seq (.ops [⟨(some 4), none, (.mv (.const (.bool false)))⟩]) [4] .ret)
@[reducible] def c58_s5 : LC := (.seq (.draw c58_d0) [0, 1, 12, 13, 24] (.cond (.tmp 24) c58_t1 .skip))
@[reducible] def c58_s6 : LC := (.ops [⟨(some 25), none, (.bin .add .other (.tmp 13) (.const (.int .i64 1)))⟩, ⟨(some 13), none, (.mv (.tmp 25))⟩])
@[reducible] def c58_s4 : LC := (.seq (.block 1 (.seq (.ops [⟨(some 15), none, (.mv (.tmp 13))⟩, ⟨(some 5), none, (.mv (.tmp 15))⟩]) [0, 1, 5, 12, 13] c58_s5)) [0, 1, 12, 13] c58_s6)
@[reducible] def c58_s3 : LC := (.seq (.cond (.tmp 14) .skip (.exit 0)) [0, 1, 12, 13] c58_s4)
@[reducible] def c58_b0 : LC := (.seq (.ops [⟨(some 14), none, (.bin .lss .other (.tmp 13) (.tmp 12))⟩]) [0, 1, 12, 13, 14] c58_s3)
@[reducible] def c58_l0 : LC := .loop [13] [0, 1, 12] c58_b0
@[reducible] def c58_s2 : LC := (.block 0 c58_l0)
@[reducible] def c58_s7 : LC := (.seq (.ops [⟨(some 4), none, (.mv (.const (.bool true)))⟩]) [4] .ret)
@[reducible] def c58_s1 : LC := (.seq (.seq (.ops [⟨(some 11), none, (.mv (.tmp 0))⟩, ⟨(some 12), none, (.lenl (.tmp 11))⟩, ⟨(some 13), none, (.mv (.const (.int .i64 0)))⟩]) [0, 1, 12, 13] c58_s2) [] c58_s7)
@[reducible] def c58_s0 : LC := (.seq (.seq (.ops [⟨(some 6), none, (.mv (.tmp 0))⟩, ⟨(some 7), none, (.lenl (.tmp 6))⟩, ⟨(some 8), none, (.mv (.tmp 1))⟩, ⟨(some 9), none, (.lenl (.tmp 8))⟩, ⟨(some 10), none, (.bin .neq .other (.tmp 7) (.tmp 9))⟩]) [0, 1, 10] (.cond (.tmp 10) c58_t0 .skip)) [0, 1] c58_s1)
@[reducible] def c58 : LC := (.seq (.ops [⟨(some 4), none, (.mv (.const (.bool false)))⟩]) [0, 1] c58_s0)
theorem c58_low : lowC Try.prog ⟨0, 26⟩ (.seq .leaf [0, 1] (.seq (.seq .leaf [0, 1, 10] (.cond (.seq .leaf [4] .leaf) .leaf)) [0, 1] (.seq (.seq .leaf [0, 1, 12, 13] (.block (.loop [13] [0, 1, 12] (.seq .leaf [0, 1, 12, 13, 14] (.seq (.cond .leaf .leaf) [0, 1, 12, 13] (.seq (.block (.seq .leaf [0, 1, 5, 12, 13] (.seq (.draw [[], [], [0, 1], [2], [], [], [4, 5], [6], [3, 7]] (.q 0 (.q 1 (.q 2 (.q 3 (.q 4 (.q 5 (.q 6 (.q 7 (.q 8 (.done))))))))))) [0, 1, 12, 13, 24] (.cond (.seq .leaf [4] .leaf) .leaf)))) [0, 1, 12, 13] .leaf)))))) [] (.seq .leaf [4] .leaf)))) (Try.f58.body.getD .skip) = c58 := by kernel_rfl
theorem c58_ce {args : List Value} (ha : args.length ≤ 26) {h : H} {R : Ending → H → Prop} (hv : vc Try.prog c58 (retQ [4] R) (argEnv args 0) h) : CallsE Try.prog 58 args.toArray h R :=
  callsE_of (res := [4]) Try.func58 rfl rfl rfl c58_low ha hv
theorem c58_ok {args : List Value} (ha : args.length ≤ 26) {h : H} {R : Value → H → Prop} (hv : vc Try.prog c58 (retQ [4] (okR R)) (argEnv args 0) h) : Ok Try.prog 58 args.toArray h R :=
  ok_of (res := [4]) Try.func58 rfl rfl rfl c58_low ha hv

@[reducible] def c59_t0 : LC := (.seq (.ops [⟨(some 17), none, (.ld (.tmp 4))⟩, ⟨none, none, (.st (.tmp 4) (.tmp 17))⟩]) [4] .ret)
@[reducible] def c59_t2 : LC := (.seq (.ops [⟨none, none, (.st (.tmp 4) (.const (.int .i64 300)))⟩]) [4] .ret)
@[reducible] def c59_t1 : LC := (.seq (.ops [⟨(some 19), none, (.mv (.tmp 6))⟩, ⟨(some 20), none, (.mv (.tmp 0))⟩, ⟨(some 21), none, (.lenl (.tmp 20))⟩, ⟨(some 22), none, (.bin .neq .other (.tmp 19) (.tmp 21))⟩, ⟨(some 18), none, (.mv (.tmp 22))⟩]) [1, 4, 5, 18] (.cond (.tmp 18) c59_t2 .skip))
@[reducible] def c59_t3 : LC := (.seq (.ops [⟨none, none, (.st (.tmp 4) (.const (.int .i64 301)))⟩]) [4] .ret)
@[reducible] def c59_s3 : LC := (.seq (.ops [⟨none, none, (.st (.tmp 4) (.const (.int .i64 0)))⟩]) [4] .ret)
@[reducible] def c59_s2 : LC := (.seq (.seq (.ops [⟨(some 30), none, (.lea 0 (.tmp 7))⟩, ⟨(some 31), none, (.ld (.tmp 30))⟩, ⟨(some 32), none, (.call 82 [(.tmp 31)])⟩, ⟨(some 33), none, (.bin .neq .other (.tmp 32) (.const (.int .i64 0)))⟩]) [4, 33] (.cond (.tmp 33) c59_t3 .skip)) [4] c59_s3)
@[reducible] def c59_s1 : LC := (.seq (.ops [⟨(some 27), none, (.mv (.tmp 1))⟩, ⟨(some 28), none, (.ldn 1 (.tmp 7))⟩, ⟨(some 29), none, (.callv (.tmp 27) [(.tmp 28)])⟩]) [4, 7] c59_s2)
@[reducible] def c59_s0 : LC := (.seq (.ops [⟨(some 24), none, (.mv (.tmp 5))⟩, ⟨(some 25), none, (.call 53 [(.tmp 24)])⟩, ⟨(some 26), none, (.agg #[(.pointer none)] [(0, 1, (.tmp 25))])⟩, ⟨(some 7), none, (.new 114 #[(.pointer none)])⟩, ⟨none, none, (.stn 1 (.tmp 7) (.tmp 26))⟩]) [1, 4, 7] c59_s1)
@[reducible] def c59_p2 : LD := (.dfr [⟨(some 23), none, (.mkfn (.func 81) [] [(.tmp 4)])⟩] (.tmp 23) [1, 4, 5] [4] c59_s0)
@[reducible] def c59_p1 : LD := (.pre (.block 0 (.seq (.ops [⟨(some 15), none, (.ld (.tmp 4))⟩, ⟨(some 16), none, (.bin .neq .other (.tmp 15) (.const (.int .i64 0)))⟩, ⟨(some 14), none, (.mv (.tmp 16))⟩]) [0, 1, 4, 5, 6, 14] (.cond (.tmp 14) c59_t0 c59_t1))) [1, 4, 5] c59_p2)
@[reducible] def c59_p0 : LD := (.pre (.ops [⟨(some 9), none, (.mv (.tmp 0))⟩, ⟨(some 10), none, (.call 21 [(.tmp 9)])⟩, ⟨(some 8), none, (.mv (.tmp 10))⟩, ⟨(some 11), none, (.ext (.tmp 8) 0)⟩, ⟨(some 12), none, (.ext (.tmp 8) 1)⟩, ⟨(some 13), none, (.ext (.tmp 8) 2)⟩, ⟨(some 5), none, (.mv (.tmp 11))⟩, ⟨(some 6), none, (.mv (.tmp 12))⟩, ⟨none, none, (.st (.tmp 4) (.tmp 13))⟩]) [0, 1, 4, 5, 6] c59_p1)
@[reducible] def c59 : LD := (.pre (.ops [⟨(some 4), none, (.new 33 #[(.int .i64 0)])⟩]) [0, 1, 4] c59_p0)
theorem c59_low : lowD Try.prog 5 34 (.pre .leaf [0, 1, 4] (.pre .leaf [0, 1, 4, 5, 6] (.pre (.block (.seq .leaf [0, 1, 4, 5, 6, 14] (.cond (.seq .leaf [4] .leaf) (.seq .leaf [1, 4, 5, 18] (.cond (.seq .leaf [4] .leaf) .leaf))))) [1, 4, 5] (.dfr [1, 4, 5] [4] (.seq .leaf [1, 4, 7] (.seq .leaf [4, 7] (.seq (.seq .leaf [4, 33] (.cond (.seq .leaf [4] .leaf) .leaf)) [4] (.seq .leaf [4] .leaf)))))))) (Try.f59.body.getD .skip) = c59 := by kernel_rfl
theorem c59_ok {args : List Value} (ha : args.length ≤ 34) {h : H} {R : Value → H → Prop} (hv : vcD Try.prog [.c 4 33] (okR R) c59 (argEnv args 0) h) : Ok Try.prog 59 args.toArray h R :=
  okD_of (res := [.c 4 33]) Try.func59 rfl rfl rfl (by decide) c59_low ha hv

@[reducible] def c60_d0 : DT := .q 0 ⟨(some 3), none, (.lea 0 (.tmp 2))⟩ (.q 1 ⟨(some 4), none, (.ld (.tmp 3))⟩ (.q 7 ⟨(some 10), none, (.lea 0 (.tmp 2))⟩ (.q 8 ⟨(some 11), none, (.ld (.tmp 10))⟩ (.q 13 ⟨(some 16), none, (.lea 0 (.tmp 2))⟩ (.q 14 ⟨(some 17), none, (.ld (.tmp 16))⟩ (.e 2 [7, 8, 13, 14] ⟨(some 5), none, (.call 62 [(.tmp 4)])⟩ (.q 3 ⟨(some 6), none, (.ext (.tmp 5) 0)⟩ (.q 4 ⟨(some 7), none, (.ext (.tmp 5) 1)⟩ (.e 5 [7, 8, 13, 14] ⟨(some 8), none, (.call 61 [(.tmp 6), (.tmp 7)])⟩ (.q 6 ⟨(some 9), none, (.cvi .i64 (.tmp 8))⟩ (.e 9 [13, 14, 6] ⟨(some 12), none, (.call 54 [(.tmp 11)])⟩ (.q 10 ⟨(some 13), none, (.ext (.tmp 12) 0)⟩ (.q 11 ⟨(some 14), none, (.ext (.tmp 12) 1)⟩ (.e 12 [13, 14, 6] ⟨(some 15), none, (.call 63 [(.tmp 13), (.tmp 14)])⟩ (.e 15 [6] ⟨(some 18), none, (.call 65 [(.tmp 17)])⟩ (.q 16 ⟨(some 19), none, (.ext (.tmp 18) 0)⟩ (.q 17 ⟨(some 20), none, (.ext (.tmp 18) 1)⟩ (.e 18 [6] ⟨(some 21), none, (.call 64 [(.tmp 19), (.tmp 20)])⟩ (.q 19 ⟨(some 22), none, (.cvi .i64 (.tmp 21))⟩ (.q 20 ⟨(some 23), none, (.lea 0 (.tmp 1))⟩ (.e 21 [19] ⟨none, none, (.st (.tmp 23) (.tmp 9))⟩ (.q 22 ⟨(some 24), none, (.lea 1 (.tmp 1))⟩ (.e 23 [19] ⟨none, none, (.st (.tmp 24) (.tmp 15))⟩ (.q 24 ⟨(some 25), none, (.lea 2 (.tmp 1))⟩ (.e 25 [] ⟨none, none, (.st (.tmp 25) (.tmp 22))⟩ (.done))))))))))))))))))))))))))
@[reducible] def c60_t0 : LC := (.ops [⟨(some 30), none, (.ldn 1 (.tmp 2))⟩, ⟨(some 31), none, (.call 66 [(.tmp 30)])⟩, ⟨(some 32), none, (.lea 3 (.tmp 1))⟩, ⟨none, none, (.st (.tmp 32) (.tmp 31))⟩])
@[reducible] def c60_d1 : DT := .q 0 ⟨(some 35), none, (.lea 0 (.tmp 2))⟩ (.q 1 ⟨(some 36), none, (.ld (.tmp 35))⟩ (.q 6 ⟨(some 41), none, (.lea 0 (.tmp 2))⟩ (.q 7 ⟨(some 42), none, (.ld (.tmp 41))⟩ (.e 2 [6, 7] ⟨(some 37), none, (.call 68 [(.tmp 36)])⟩ (.q 3 ⟨(some 38), none, (.ext (.tmp 37) 0)⟩ (.q 4 ⟨(some 39), none, (.ext (.tmp 37) 1)⟩ (.e 5 [6, 7] ⟨(some 40), none, (.call 67 [(.tmp 38), (.tmp 39)])⟩ (.e 8 [] ⟨(some 43), none, (.call 68 [(.tmp 42)])⟩ (.q 9 ⟨(some 44), none, (.ext (.tmp 43) 0)⟩ (.q 10 ⟨(some 45), none, (.ext (.tmp 43) 1)⟩ (.e 11 [] ⟨(some 46), none, (.call 67 [(.tmp 44), (.tmp 45)])⟩ (.q 12 ⟨(some 47), none, (.lea 4 (.tmp 1))⟩ (.e 13 [] ⟨none, none, (.st (.tmp 47) (.tmp 40))⟩ (.q 14 ⟨(some 48), none, (.lea 5 (.tmp 1))⟩ (.e 15 [] ⟨none, none, (.st (.tmp 48) (.tmp 46))⟩ (.done))))))))))))))))
@[reducible] def c60_t2 : LC := (.draw c60_d1)
@[reducible] def c60_t1 : LC := (.seq (.ops [⟨(some 34), none, (.bin .eql .other (.tmp 27) (.const (.int .i64 2)))⟩, ⟨(some 33), none, (.mv (.tmp 34))⟩]) [1, 2, 33] (.cond (.tmp 33) c60_t2 .skip))
@[reducible] def c60_s2 : LC := (.block 0 (.seq (.ops [⟨(some 29), none, (.bin .eql .other (.tmp 27) (.const (.int .i64 1)))⟩, ⟨(some 28), none, (.mv (.tmp 29))⟩]) [1, 2, 27, 28] (.cond (.tmp 28) c60_t0 c60_t1)))
@[reducible] def c60_s1 : LC := (.seq (.ops [⟨(some 26), none, (.lea 0 (.tmp 1))⟩, ⟨(some 27), none, (.ld (.tmp 26))⟩]) [1, 2, 27] c60_s2)
@[reducible] def c60_s0 : LC := (.seq (.draw c60_d0) [1, 2] c60_s1)
@[reducible] def c60 : LC := (.seq (.ops [⟨(some 2), none, (.box 114 (.tmp 0))⟩]) [1, 2] c60_s0)
theorem c60_low : lowC Try.prog ⟨0, 49⟩ (.seq .leaf [1, 2] (.seq (.draw [[], [0], [0, 1], [0, 2], [2], [0, 1, 2, 3, 4], [2, 5], [], [7], [0, 1, 2, 3, 4, 5, 7, 8], [0, 1, 2, 3, 4, 5, 7, 9], [2, 5, 9], [0, 1, 2, 3, 4, 5, 7, 8, 9, 10, 11], [], [13], [0, 1, 2, 3, 4, 5, 7, 8, 9, 10, 11, 12, 13, 14], [1, 2, 3, 5, 9, 10, 12, 15], [2, 5, 9, 12, 15], [0, 1, 2, 3, 4, 5, 7, 8, 9, 10, 11, 12, 13, 14, 15, 16, 17], [2, 5, 9, 12, 15, 18], [2, 5, 9, 12, 15, 18], [0, 1, 2, 3, 4, 5, 6, 7, 8, 9, 10, 11, 12, 13, 14, 15, 16, 17, 18, 20], [2, 5, 9, 12, 15, 18, 21], [0, 1, 2, 3, 4, 5, 6, 7, 8, 9, 10, 11, 12, 13, 14, 15, 16, 17, 18, 20, 21, 22], [2, 5, 9, 12, 15, 18, 21, 23], [0, 1, 2, 3, 4, 5, 6, 7, 8, 9, 10, 11, 12, 13, 14, 15, 16, 17, 18, 19, 20, 21, 22, 23, 24]] (.q 0 (.q 1 (.q 7 (.q 8 (.q 13 (.q 14 (.e 2 [7, 8, 13, 14] (.q 3 (.q 4 (.e 5 [7, 8, 13, 14] (.q 6 (.e 9 [13, 14, 6] (.q 10 (.q 11 (.e 12 [13, 14, 6] (.e 15 [6] (.q 16 (.q 17 (.e 18 [6] (.q 19 (.q 20 (.e 21 [19] (.q 22 (.e 23 [19] (.q 24 (.e 25 [] (.done)))))))))))))))))))))))))))) [1, 2] (.seq .leaf [1, 2, 27] (.block (.seq .leaf [1, 2, 27, 28] (.cond .leaf (.seq .leaf [1, 2, 33] (.cond (.draw [[], [0], [0, 1], [0, 2], [2], [0, 1, 2, 3, 4], [], [6], [0, 1, 2, 3, 4, 5, 6, 7], [0, 2, 4, 5, 8], [2, 5, 8], [0, 1, 2, 3, 4, 5, 6, 7, 8, 9, 10], [2, 5, 6, 8, 11], [0, 1, 2, 3, 4, 5, 6, 7, 8, 9, 10, 11, 12], [2, 5, 8, 11, 13], [0, 1, 2, 3, 4, 5, 6, 7, 8, 9, 10, 11, 12, 13, 14]] (.q 0 (.q 1 (.q 6 (.q 7 (.e 2 [6, 7] (.q 3 (.q 4 (.e 5 [6, 7] (.e 8 [] (.q 9 (.q 10 (.e 11 [] (.q 12 (.e 13 [] (.q 14 (.e 15 [] (.done)))))))))))))))))) .leaf)))))))) (Try.f60.body.getD .skip) = c60 := by kernel_rfl
theorem c60_ce {args : List Value} (ha : args.length ≤ 49) {h : H} {R : Ending → H → Prop} (hv : vc Try.prog c60 (retQ [] R) (argEnv args 0) h) : CallsE Try.prog 60 args.toArray h R :=
  callsE_of (res := []) Try.func60 rfl rfl rfl c60_low ha hv
theorem c60_ok {args : List Value} (ha : args.length ≤ 49) {h : H} {R : Value → H → Prop} (hv : vc Try.prog c60 (retQ [] (okR R)) (argEnv args 0) h) : Ok Try.prog 60 args.toArray h R :=
  ok_of (res := []) Try.func60 rfl rfl rfl c60_low ha hv

@[reducible] def c61_t0 : LC := (.ops [⟨(some 7), none, (.iface 33 (.const (.int .i64 301)))⟩, ⟨none, none, (.pnc (.tmp 7))⟩])
@[reducible] def c61_s1 : LC := (.seq (.ops [⟨(some 8), none, (.mv (.tmp 0))⟩, ⟨(some 4), none, (.mv (.tmp 8))⟩]) [4] .ret)
@[reducible] def c61_s0 : LC := (.seq (.seq (.ops [⟨(some 5), none, (.mv (.tmp 1))⟩, ⟨(some 6), none, (.bin .neq .other (.tmp 5) (.const (.int .i64 0)))⟩]) [0, 6] (.cond (.tmp 6) c61_t0 .skip)) [0] c61_s1)
@[reducible] def c61 : LC := (.seq (.ops [⟨(some 4), none, (.mv (.const (.int .u8 0)))⟩]) [0, 1] c61_s0)
theorem c61_low : lowC Try.prog ⟨0, 9⟩ (.seq .leaf [0, 1] (.seq (.seq .leaf [0, 6] (.cond .leaf .leaf)) [0] (.seq .leaf [4] .leaf))) (Try.f61.body.getD .skip) = c61 := by kernel_rfl
theorem c61_ce {args : List Value} (ha : args.length ≤ 9) {h : H} {R : Ending → H → Prop} (hv : vc Try.prog c61 (retQ [4] R) (argEnv args 0) h) : CallsE Try.prog 61 args.toArray h R :=
  callsE_of (res := [4]) Try.func61 rfl rfl rfl c61_low ha hv
theorem c61_ok {args : List Value} (ha : args.length ≤ 9) {h : H} {R : Value → H → Prop} (hv : vc Try.prog c61 (retQ [4] (okR R)) (argEnv args 0) h) : Ok Try.prog 61 args.toArray h R :=
  ok_of (res := [4]) Try.func61 rfl rfl rfl c61_low ha hv

@[reducible] def c62_s1 : LC := (.seq (.ops [⟨(some 11), none, (.mv (.tmp 4))⟩, ⟨(some 12), none, (.cvi .u8 (.tmp 11))⟩, ⟨(some 13), none, (.mv (.tmp 5))⟩, ⟨(some 2), none, (.mv (.tmp 12))⟩, ⟨(some 3), none, (.mv (.tmp 13))⟩]) [2, 3] .ret)
@[reducible] def c62_s0 : LC := (.seq (.ops [⟨(some 7), none, (.mv (.tmp 0))⟩, ⟨(some 8), none, (.call 78 [(.tmp 7), (.const (.int .i64 1))])⟩, ⟨(some 6), none, (.mv (.tmp 8))⟩, ⟨(some 9), none, (.ext (.tmp 6) 0)⟩, ⟨(some 10), none, (.ext (.tmp 6) 1)⟩, ⟨(some 4), none, (.mv (.tmp 9))⟩, ⟨(some 5), none, (.mv (.tmp 10))⟩]) [4, 5] c62_s1)
@[reducible] def c62 : LC := (.seq (.ops [⟨(some 2), none, (.mv (.const (.int .u8 0)))⟩, ⟨(some 3), none, (.mv (.const (.int .i64 0)))⟩]) [0] c62_s0)
theorem c62_low : lowC Try.prog ⟨0, 14⟩ (.seq .leaf [0] (.seq .leaf [4, 5] (.seq .leaf [2, 3] .leaf))) (Try.f62.body.getD .skip) = c62 := by kernel_rfl
theorem c62_ce {args : List Value} (ha : args.length ≤ 14) {h : H} {R : Ending → H → Prop} (hv : vc Try.prog c62 (retQ [2, 3] R) (argEnv args 0) h) : CallsE Try.prog 62 args.toArray h R :=
  callsE_of (res := [2, 3]) Try.func62 rfl rfl rfl c62_low ha hv
theorem c62_ok {args : List Value} (ha : args.length ≤ 14) {h : H} {R : Value → H → Prop} (hv : vc Try.prog c62 (retQ [2, 3] (okR R)) (argEnv args 0) h) : Ok Try.prog 62 args.toArray h R :=
  ok_of (res := [2, 3]) Try.func62 rfl rfl rfl c62_low ha hv

@[reducible] def c63_t0 : LC := (.ops [⟨(some 7), none, (.iface 33 (.const (.int .i64 301)))⟩, ⟨none, none, (.pnc (.tmp 7))⟩])
@[reducible] def c63_s1 : LC := (.seq (.ops [⟨(some 8), none, (.mv (.tmp 0))⟩, ⟨(some 4), none, (.mv (.tmp 8))⟩]) [4] .ret)
@[reducible] def c63_s0 : LC := (.seq (.seq (.ops [⟨(some 5), none, (.mv (.tmp 1))⟩, ⟨(some 6), none, (.bin .neq .other (.tmp 5) (.const (.int .i64 0)))⟩]) [0, 6] (.cond (.tmp 6) c63_t0 .skip)) [0] c63_s1)
@[reducible] def c63 : LC := (.seq (.ops [⟨(some 4), none, (.mv (.const (.int .u32 0)))⟩]) [0, 1] c63_s0)
theorem c63_low : lowC Try.prog ⟨0, 9⟩ (.seq .leaf [0, 1] (.seq (.seq .leaf [0, 6] (.cond .leaf .leaf)) [0] (.seq .leaf [4] .leaf))) (Try.f63.body.getD .skip) = c63 := by kernel_rfl
theorem c63_ce {args : List Value} (ha : args.length ≤ 9) {h : H} {R : Ending → H → Prop} (hv : vc Try.prog c63 (retQ [4] R) (argEnv args 0) h) : CallsE Try.prog 63 args.toArray h R :=
  callsE_of (res := [4]) Try.func63 rfl rfl rfl c63_low ha hv
theorem c63_ok {args : List Value} (ha : args.length ≤ 9) {h : H} {R : Value → H → Prop} (hv : vc Try.prog c63 (retQ [4] (okR R)) (argEnv args 0) h) : Ok Try.prog 63 args.toArray h R :=
  ok_of (res := [4]) Try.func63 rfl rfl rfl c63_low ha hv

@[reducible] def c64_t0 : LC := (.ops [⟨(some 7), none, (.iface 33 (.const (.int .i64 301)))⟩, ⟨none, none, (.pnc (.tmp 7))⟩])
@[reducible] def c64_s1 : LC := (.seq (.ops [⟨(some 8), none, (.mv (.tmp 0))⟩, ⟨(some 4), none, (.mv (.tmp 8))⟩]) [4] .ret)
@[reducible] def c64_s0 : LC := (.seq (.seq (.ops [⟨(some 5), none, (.mv (.tmp 1))⟩, ⟨(some 6), none, (.bin .neq .other (.tmp 5) (.const (.int .i64 0)))⟩]) [0, 6] (.cond (.tmp 6) c64_t0 .skip)) [0] c64_s1)
@[reducible] def c64 : LC := (.seq (.ops [⟨(some 4), none, (.mv (.const (.int .u16 0)))⟩]) [0, 1] c64_s0)
theorem c64_low : lowC Try.prog ⟨0, 9⟩ (.seq .leaf [0, 1] (.seq (.seq .leaf [0, 6] (.cond .leaf .leaf)) [0] (.seq .leaf [4] .leaf))) (Try.f64.body.getD .skip) = c64 := by kernel_rfl
theorem c64_ce {args : List Value} (ha : args.length ≤ 9) {h : H} {R : Ending → H → Prop} (hv : vc Try.prog c64 (retQ [4] R) (argEnv args 0) h) : CallsE Try.prog 64 args.toArray h R :=
  callsE_of (res := [4]) Try.func64 rfl rfl rfl c64_low ha hv
theorem c64_ok {args : List Value} (ha : args.length ≤ 9) {h : H} {R : Value → H → Prop} (hv : vc Try.prog c64 (retQ [4] (okR R)) (argEnv args 0) h) : Ok Try.prog 64 args.toArray h R :=
  ok_of (res := [4]) Try.func64 rfl rfl rfl c64_low ha hv

@[reducible] def c65_s1 : LC := (.seq (.ops [⟨(some 11), none, (.mv (.tmp 4))⟩, ⟨(some 12), none, (.cvi .u16 (.tmp 11))⟩, ⟨(some 13), none, (.mv (.tmp 5))⟩, ⟨(some 2), none, (.mv (.tmp 12))⟩, ⟨(some 3), none, (.mv (.tmp 13))⟩]) [2, 3] .ret)
@[reducible] def c65_s0 : LC := (.seq (.ops [⟨(some 7), none, (.mv (.tmp 0))⟩, ⟨(some 8), none, (.call 78 [(.tmp 7), (.const (.int .i64 2))])⟩, ⟨(some 6), none, (.mv (.tmp 8))⟩, ⟨(some 9), none, (.ext (.tmp 6) 0)⟩, ⟨(some 10), none, (.ext (.tmp 6) 1)⟩, ⟨(some 4), none, (.mv (.tmp 9))⟩, ⟨(some 5), none, (.mv (.tmp 10))⟩]) [4, 5] c65_s1)
@[reducible] def c65 : LC := (.seq (.ops [⟨(some 2), none, (.mv (.const (.int .u16 0)))⟩, ⟨(some 3), none, (.mv (.const (.int .i64 0)))⟩]) [0] c65_s0)
theorem c65_low : lowC Try.prog ⟨0, 14⟩ (.seq .leaf [0] (.seq .leaf [4, 5] (.seq .leaf [2, 3] .leaf))) (Try.f65.body.getD .skip) = c65 := by kernel_rfl
theorem c65_ce {args : List Value} (ha : args.length ≤ 14) {h : H} {R : Ending → H → Prop} (hv : vc Try.prog c65 (retQ [2, 3] R) (argEnv args 0) h) : CallsE Try.prog 65 args.toArray h R :=
  callsE_of (res := [2, 3]) Try.func65 rfl rfl rfl c65_low ha hv
theorem c65_ok {args : List Value} (ha : args.length ≤ 14) {h : H} {R : Value → H → Prop} (hv : vc Try.prog c65 (retQ [2, 3] (okR R)) (argEnv args 0) h) : Ok Try.prog 65 args.toArray h R :=
  ok_of (res := [2, 3]) Try.func65 rfl rfl rfl c65_low ha hv

@[reducible] def c66_t0 : LC := (.ops [⟨(some 13), none, (.iface 33 (.const (.int .i64 301)))⟩, ⟨none, none, (.pnc (.tmp 13))⟩])
@[reducible] def c66_d0 : DT := .q 0 ⟨(some 16), none, (.mv (.tmp 4))⟩ (.q 1 ⟨(some 17), none, (.lea 0 (.tmp 1))⟩ (.q 2 ⟨(some 18), none, (.ld (.tmp 17))⟩ (.q 7 ⟨(some 23), none, (.lea 0 (.tmp 1))⟩ (.q 8 ⟨(some 24), none, (.ld (.tmp 23))⟩ (.q 13 ⟨(some 29), none, (.lea 0 (.tmp 1))⟩ (.q 14 ⟨(some 30), none, (.ld (.tmp 29))⟩ (.e 3 [0, 7, 8, 13, 14] ⟨(some 19), none, (.call 68 [(.tmp 18)])⟩ (.q 4 ⟨(some 20), none, (.ext (.tmp 19) 0)⟩ (.q 5 ⟨(some 21), none, (.ext (.tmp 19) 1)⟩ (.e 6 [0, 7, 8, 13, 14] ⟨(some 22), none, (.call 67 [(.tmp 20), (.tmp 21)])⟩ (.e 9 [0, 13, 14] ⟨(some 25), none, (.call 84 [(.tmp 24), (.const (.int .i64 256))])⟩ (.q 10 ⟨(some 26), none, (.ext (.tmp 25) 0)⟩ (.q 11 ⟨(some 27), none, (.ext (.tmp 25) 1)⟩ (.e 12 [0, 13, 14] ⟨(some 28), none, (.call 83 [(.tmp 26), (.tmp 27)])⟩ (.e 15 [0] ⟨(some 31), none, (.call 84 [(.tmp 30), (.const (.int .i64 4096))])⟩ (.q 16 ⟨(some 32), none, (.ext (.tmp 31) 0)⟩ (.q 17 ⟨(some 33), none, (.ext (.tmp 31) 1)⟩ (.e 18 [0] ⟨(some 34), none, (.call 83 [(.tmp 32), (.tmp 33)])⟩ (.q 19 ⟨(some 35), none, (.agg #[(.int .i64 0), (.slice none 0 0), (.slice none 0 0)] [(0, 1, (.tmp 22)), (1, 1, (.tmp 28)), (2, 1, (.tmp 34))])⟩ (.e 20 [0] ⟨(some 36), none, (.lit 32 1 #[(.int .i64 0), (.slice none 0 0), (.slice none 0 0)] [(0, 3, (.tmp 35))])⟩ (.e 21 [] ⟨(some 37), none, (.app 32 3 56 #[(.int .i64 0), (.slice none 0 0), (.slice none 0 0)] (.tmp 16) (.tmp 36))⟩ (.q 22 ⟨(some 4), none, (.mv (.tmp 37))⟩ (.done)))))))))))))))))))))))
@[reducible] def c66_s6 : LC := (.ops [⟨(some 38), none, (.mv (.tmp 3))⟩, ⟨(some 39), none, (.bin .sub .other (.tmp 38) (.const (.int .u32 1)))⟩, ⟨(some 3), none, (.mv (.tmp 39))⟩])
@[reducible] def c66_s5 : LC := (.seq (.draw c66_d0) [1, 3, 4] c66_s6)
@[reducible] def c66_b0 : LC := (.block 1 (.seq (.seq (.ops [⟨(some 14), none, (.mv (.tmp 3))⟩, ⟨(some 15), none, (.bin .eql .other (.tmp 14) (.const (.int .u32 0)))⟩]) [1, 3, 4, 15] (.cond (.tmp 15) (.exit 0) .skip)) [1, 3, 4] c66_s5))
@[reducible] def c66_l0 : LC := .loop [3, 4] [1] c66_b0
@[reducible] def c66_s7 : LC := (.seq (.ops [⟨(some 40), none, (.mv (.tmp 4))⟩, ⟨(some 2), none, (.mv (.tmp 40))⟩]) [2] .ret)
@[reducible] def c66_s4 : LC := (.seq (.block 0 c66_l0) [4] c66_s7)
@[reducible] def c66_s3 : LC := (.seq .skip [1, 3, 4] c66_s4)
@[reducible] def c66_s2 : LC := (.seq (.ops [⟨(some 4), none, (.mv (.const (.slice none 0 0)))⟩]) [1, 3, 4] c66_s3)
@[reducible] def c66_s1 : LC := (.seq (.seq (.ops [⟨(some 11), none, (.mv (.tmp 3))⟩, ⟨(some 12), none, (.bin .gtr .other (.tmp 11) (.const (.int .u32 1024)))⟩]) [1, 3, 12] (.cond (.tmp 12) c66_t0 .skip)) [1, 3] c66_s2)
@[reducible] def c66_s0 : LC := (.scope (.seq (.ops [⟨(some 5), none, (.lea 0 (.tmp 1))⟩, ⟨(some 6), none, (.ld (.tmp 5))⟩, ⟨(some 7), none, (.call 54 [(.tmp 6)])⟩, ⟨(some 8), none, (.ext (.tmp 7) 0)⟩, ⟨(some 9), none, (.ext (.tmp 7) 1)⟩, ⟨(some 10), none, (.call 63 [(.tmp 8), (.tmp 9)])⟩, ⟨(some 3), none, (.mv (.tmp 10))⟩]) [1, 3] c66_s1))
@[reducible] def c66 : LC := (.seq (.ops [⟨(some 1), none, (.box 114 (.tmp 0))⟩, ⟨(some 2), none, (.mv (.const (.slice none 0 0)))⟩]) [1] c66_s0)
theorem c66_low : lowC Try.prog ⟨0, 41⟩ (.seq .leaf [1] (.scope (.seq .leaf [1, 3] (.seq (.seq .leaf [1, 3, 12] (.cond .leaf .leaf)) [1, 3] (.seq .leaf [1, 3, 4] (.seq .leaf [1, 3, 4] (.seq (.block (.loop [3, 4] [1] (.block (.seq (.seq .leaf [1, 3, 4, 15] (.cond .leaf .leaf)) [1, 3, 4] (.seq (.draw [[], [], [1], [1, 2], [1, 3], [3], [1, 2, 3, 4, 5], [], [7], [1, 2, 3, 4, 5, 6, 7, 8], [1, 2, 3, 4, 5, 6, 7, 9], [3, 6, 9], [1, 2, 3, 4, 5, 6, 7, 8, 9, 10, 11], [], [13], [1, 2, 3, 4, 5, 6, 7, 8, 9, 10, 11, 12, 13, 14], [1, 2, 3, 6, 9, 10, 12, 15], [3, 6, 9, 12, 15], [1, 2, 3, 4, 5, 6, 7, 8, 9, 10, 11, 12, 13, 14, 15, 16, 17], [1, 2, 3, 4, 5, 6, 7, 8, 9, 10, 11, 12, 13, 14, 15, 16, 17, 18], [1, 2, 3, 4, 5, 6, 7, 8, 9, 10, 11, 12, 13, 14, 15, 16, 17, 18, 19], [0, 1, 2, 3, 4, 5, 6, 7, 8, 9, 10, 11, 12, 13, 14, 15, 16, 17, 18, 19, 20], [0, 3, 6, 9, 12, 15, 18, 20, 21]] (.q 0 (.q 1 (.q 2 (.q 7 (.q 8 (.q 13 (.q 14 (.e 3 [0, 7, 8, 13, 14] (.q 4 (.q 5 (.e 6 [0, 7, 8, 13, 14] (.e 9 [0, 13, 14] (.q 10 (.q 11 (.e 12 [0, 13, 14] (.e 15 [0] (.q 16 (.q 17 (.e 18 [0] (.q 19 (.e 20 [0] (.e 21 [] (.q 22 (.done))))))))))))))))))))))))) [1, 3, 4] .leaf))))) [4] (.seq .leaf [2] .leaf)))))))) (Try.f66.body.getD .skip) = c66 := by kernel_rfl
theorem c66_ce {args : List Value} (ha : args.length ≤ 41) {h : H} {R : Ending → H → Prop} (hv : vc Try.prog c66 (retQ [2] R) (argEnv args 0) h) : CallsE Try.prog 66 args.toArray h R :=
  callsE_of (res := [2]) Try.func66 rfl rfl rfl c66_low ha hv
theorem c66_ok {args : List Value} (ha : args.length ≤ 41) {h : H} {R : Value → H → Prop} (hv : vc Try.prog c66 (retQ [2] (okR R)) (argEnv args 0) h) : Ok Try.prog 66 args.toArray h R :=
  ok_of (res := [2]) Try.func66 rfl rfl rfl c66_low ha hv

@[reducible] def c67_t0 : LC := (.ops [⟨(some 7), none, (.iface 33 (.const (.int .i64 301)))⟩, ⟨none, none, (.pnc (.tmp 7))⟩])
@[reducible] def c67_s1 : LC := (.seq (.ops [⟨(some 8), none, (.mv (.tmp 0))⟩, ⟨(some 4), none, (.mv (.tmp 8))⟩]) [4] .ret)
@[reducible] def c67_s0 : LC := (.seq (.seq (.ops [⟨(some 5), none, (.mv (.tmp 1))⟩, ⟨(some 6), none, (.bin .neq .other (.tmp 5) (.const (.int .i64 0)))⟩]) [0, 6] (.cond (.tmp 6) c67_t0 .skip)) [0] c67_s1)
@[reducible] def c67 : LC := (.seq (.ops [⟨(some 4), none, (.mv (.const (.int .i64 0)))⟩]) [0, 1] c67_s0)
theorem c67_low : lowC Try.prog ⟨0, 9⟩ (.seq .leaf [0, 1] (.seq (.seq .leaf [0, 6] (.cond .leaf .leaf)) [0] (.seq .leaf [4] .leaf))) (Try.f67.body.getD .skip) = c67 := by kernel_rfl
theorem c67_ce {args : List Value} (ha : args.length ≤ 9) {h : H} {R : Ending → H → Prop} (hv : vc Try.prog c67 (retQ [4] R) (argEnv args 0) h) : CallsE Try.prog 67 args.toArray h R :=
  callsE_of (res := [4]) Try.func67 rfl rfl rfl c67_low ha hv
theorem c67_ok {args : List Value} (ha : args.length ≤ 9) {h : H} {R : Value → H → Prop} (hv : vc Try.prog c67 (retQ [4] (okR R)) (argEnv args 0) h) : Ok Try.prog 67 args.toArray h R :=
  ok_of (res := [4]) Try.func67 rfl rfl rfl c67_low ha hv

@[reducible] def c68_s1 : LC := (.seq (.ops [⟨(some 11), none, (.mv (.tmp 4))⟩, ⟨(some 12), none, (.cvi .i64 (.tmp 11))⟩, ⟨(some 13), none, (.mv (.tmp 5))⟩, ⟨(some 2), none, (.mv (.tmp 12))⟩, ⟨(some 3), none, (.mv (.tmp 13))⟩]) [2, 3] .ret)
@[reducible] def c68_s0 : LC := (.seq (.ops [⟨(some 7), none, (.mv (.tmp 0))⟩, ⟨(some 8), none, (.call 78 [(.tmp 7), (.const (.int .i64 8))])⟩, ⟨(some 6), none, (.mv (.tmp 8))⟩, ⟨(some 9), none, (.ext (.tmp 6) 0)⟩, ⟨(some 10), none, (.ext (.tmp 6) 1)⟩, ⟨(some 4), none, (.mv (.tmp 9))⟩, ⟨(some 5), none, (.mv (.tmp 10))⟩]) [4, 5] c68_s1)
@[reducible] def c68 : LC := (.seq (.ops [⟨(some 2), none, (.mv (.const (.int .i64 0)))⟩, ⟨(some 3), none, (.mv (.const (.int .i64 0)))⟩]) [0] c68_s0)
theorem c68_low : lowC Try.prog ⟨0, 14⟩ (.seq .leaf [0] (.seq .leaf [4, 5] (.seq .leaf [2, 3] .leaf))) (Try.f68.body.getD .skip) = c68 := by kernel_rfl
theorem c68_ce {args : List Value} (ha : args.length ≤ 14) {h : H} {R : Ending → H → Prop} (hv : vc Try.prog c68 (retQ [2, 3] R) (argEnv args 0) h) : CallsE Try.prog 68 args.toArray h R :=
  callsE_of (res := [2, 3]) Try.func68 rfl rfl rfl c68_low ha hv
theorem c68_ok {args : List Value} (ha : args.length ≤ 14) {h : H} {R : Value → H → Prop} (hv : vc Try.prog c68 (retQ [2, 3] (okR R)) (argEnv args 0) h) : Ok Try.prog 68 args.toArray h R :=
  ok_of (res := [2, 3]) Try.func68 rfl rfl rfl c68_low ha hv

@[reducible] def c69_d0 : DT := .q 0 ⟨(some 4), none, (.lea 0 (.tmp 2))⟩ (.q 1 ⟨(some 5), none, (.ld (.tmp 4))⟩ (.q 8 ⟨(some 12), none, (.lea 0 (.tmp 2))⟩ (.q 9 ⟨(some 13), none, (.ld (.tmp 12))⟩ (.q 14 ⟨(some 18), none, (.lea 0 (.tmp 2))⟩ (.q 15 ⟨(some 19), none, (.ld (.tmp 18))⟩ (.e 2 [8, 9, 14, 15] ⟨(some 6), none, (.call 62 [(.tmp 5)])⟩ (.q 3 ⟨(some 7), none, (.ext (.tmp 6) 0)⟩ (.q 4 ⟨(some 8), none, (.ext (.tmp 6) 1)⟩ (.e 5 [8, 9, 14, 15] ⟨(some 9), none, (.call 61 [(.tmp 7), (.tmp 8)])⟩ (.q 6 ⟨(some 10), none, (.cvi .i64 (.tmp 9))⟩ (.q 7 ⟨(some 11), none, (.bin .sub .other (.tmp 10) (.const (.int .i64 128)))⟩ (.e 10 [14, 15, 6, 7] ⟨(some 14), none, (.call 54 [(.tmp 13)])⟩ (.q 11 ⟨(some 15), none, (.ext (.tmp 14) 0)⟩ (.q 12 ⟨(some 16), none, (.ext (.tmp 14) 1)⟩ (.e 13 [14, 15, 6, 7] ⟨(some 17), none, (.call 63 [(.tmp 15), (.tmp 16)])⟩ (.e 16 [6, 7] ⟨(some 20), none, (.call 65 [(.tmp 19)])⟩ (.q 17 ⟨(some 21), none, (.ext (.tmp 20) 0)⟩ (.q 18 ⟨(some 22), none, (.ext (.tmp 20) 1)⟩ (.e 19 [6, 7] ⟨(some 23), none, (.call 64 [(.tmp 21), (.tmp 22)])⟩ (.q 20 ⟨(some 24), none, (.cvi .i64 (.tmp 23))⟩ (.q 21 ⟨(some 25), none, (.lea 0 (.tmp 1))⟩ (.e 22 [20] ⟨none, none, (.st (.tmp 25) (.tmp 11))⟩ (.q 23 ⟨(some 26), none, (.lea 1 (.tmp 1))⟩ (.e 24 [20] ⟨none, none, (.st (.tmp 26) (.tmp 17))⟩ (.q 25 ⟨(some 27), none, (.lea 2 (.tmp 1))⟩ (.e 26 [] ⟨none, none, (.st (.tmp 27) (.tmp 24))⟩ (.done)))))))))))))))))))))))))))
@[reducible] def c69_t0 : LC := (.ops [⟨(some 35), none, (.lea 0 (.tmp 2))⟩, ⟨(some 36), none, (.ld (.tmp 35))⟩, ⟨(some 37), none, (.call 68 [(.tmp 36)])⟩, ⟨(some 38), none, (.ext (.tmp 37) 0)⟩, ⟨(some 39), none, (.ext (.tmp 37) 1)⟩, ⟨(some 40), none, (.call 67 [(.tmp 38), (.tmp 39)])⟩, ⟨(some 41), none, (.lea 3 (.tmp 1))⟩, ⟨none, none, (.st (.tmp 41) (.tmp 40))⟩])
@[reducible] def c69_d1 : DT := .q 0 ⟨(some 44), none, (.lea 0 (.tmp 2))⟩ (.q 1 ⟨(some 45), none, (.ld (.tmp 44))⟩ (.q 6 ⟨(some 50), none, (.ldn 1 (.tmp 2))⟩ (.e 2 [6] ⟨(some 46), none, (.call 68 [(.tmp 45)])⟩ (.q 3 ⟨(some 47), none, (.ext (.tmp 46) 0)⟩ (.q 4 ⟨(some 48), none, (.ext (.tmp 46) 1)⟩ (.e 5 [6] ⟨(some 49), none, (.call 67 [(.tmp 47), (.tmp 48)])⟩ (.e 7 [] ⟨(some 51), none, (.call 66 [(.tmp 50)])⟩ (.q 8 ⟨(some 52), none, (.lea 3 (.tmp 1))⟩ (.e 9 [] ⟨none, none, (.st (.tmp 52) (.tmp 49))⟩ (.q 10 ⟨(some 53), none, (.lea 4 (.tmp 1))⟩ (.e 11 [] ⟨none, none, (.st (.tmp 53) (.tmp 51))⟩ (.done))))))))))))
@[reducible] def c69_t2 : LC := (.draw c69_d1)
@[reducible] def c69_t5 : LC := (.ops [⟨(some 64), none, (.iface 33 (.const (.int .i64 301)))⟩, ⟨none, none, (.pnc (.tmp 64))⟩])
@[reducible] def c69_d2 : DT := .q 0 ⟨(some 68), none, (.lea 5 (.tmp 1))⟩ (.q 1 ⟨(some 69), none, (.ld (.tmp 68))⟩ (.q 2 ⟨(some 70), none, (.lea 0 (.tmp 2))⟩ (.q 3 ⟨(some 71), none, (.ld (.tmp 70))⟩ (.e 4 [0, 1] ⟨(some 72), none, (.call 68 [(.tmp 71)])⟩ (.q 5 ⟨(some 73), none, (.ext (.tmp 72) 0)⟩ (.q 6 ⟨(some 74), none, (.ext (.tmp 72) 1)⟩ (.e 7 [0, 1] ⟨(some 75), none, (.call 67 [(.tmp 73), (.tmp 74)])⟩ (.e 8 [0, 1] ⟨(some 76), none, (.lit 2 1 #[(.int .i64 0)] [(0, 1, (.tmp 75))])⟩ (.e 9 [] ⟨(some 77), none, (.app 2 1 8 #[(.int .i64 0)] (.tmp 69) (.tmp 76))⟩ (.q 10 ⟨(some 78), none, (.lea 5 (.tmp 1))⟩ (.e 11 [] ⟨none, none, (.st (.tmp 78) (.tmp 77))⟩ (.done))))))))))))
@[reducible] def c69_s9 : LC := (.ops [⟨(some 79), none, (.bin .add .other (.tmp 66) (.const (.int .u32 1)))⟩, ⟨(some 66), none, (.mv (.tmp 79))⟩])
@[reducible] def c69_s8 : LC := (.seq (.block 2 (.draw c69_d2)) [1, 2, 65, 66] c69_s9)
@[reducible] def c69_s7 : LC := (.seq (.cond (.tmp 67) .skip (.exit 1)) [1, 2, 65, 66] c69_s8)
@[reducible] def c69_b0 : LC := (.seq (.ops [⟨(some 67), none, (.bin .lss .other (.tmp 66) (.tmp 65))⟩]) [1, 2, 65, 66, 67] c69_s7)
@[reducible] def c69_l0 : LC := .loop [66] [1, 2, 65] c69_b0
@[reducible] def c69_s6 : LC := (.block 1 c69_l0)
@[reducible] def c69_s5 : LC := (.seq (.ops [⟨(some 65), none, (.mv (.tmp 3))⟩, ⟨(some 66), none, (.mv (.const (.int .u32 0)))⟩]) [1, 2, 65, 66] c69_s6)
@[reducible] def c69_s4 : LC := (.seq (.seq (.ops [⟨(some 62), none, (.mv (.tmp 3))⟩, ⟨(some 63), none, (.bin .gtr .other (.tmp 62) (.const (.int .u32 16)))⟩]) [1, 2, 3, 63] (.cond (.tmp 63) c69_t5 .skip)) [1, 2, 3] c69_s5)
@[reducible] def c69_t4 : LC := (.seq (.ops [⟨(some 56), none, (.lea 0 (.tmp 2))⟩, ⟨(some 57), none, (.ld (.tmp 56))⟩, ⟨(some 58), none, (.call 54 [(.tmp 57)])⟩, ⟨(some 59), none, (.ext (.tmp 58) 0)⟩, ⟨(some 60), none, (.ext (.tmp 58) 1)⟩, ⟨(some 61), none, (.call 63 [(.tmp 59), (.tmp 60)])⟩, ⟨(some 3), none, (.mv (.tmp 61))⟩]) [1, 2, 3] c69_s4)
@[reducible] def c69_t3 : LC := (.seq (.ops [⟨(some 55), none, (.bin .eql .other (.tmp 32) (.const (.int .i64 3)))⟩, ⟨(some 54), none, (.mv (.tmp 55))⟩]) [1, 2, 54] (.cond (.tmp 54) c69_t4 .skip))
@[reducible] def c69_t1 : LC := (.seq (.ops [⟨(some 43), none, (.bin .eql .other (.tmp 32) (.const (.int .i64 2)))⟩, ⟨(some 42), none, (.mv (.tmp 43))⟩]) [1, 2, 32, 42] (.cond (.tmp 42) c69_t2 c69_t3))
@[reducible] def c69_s3 : LC := (.block 0 (.seq (.ops [⟨(some 34), none, (.bin .eql .other (.tmp 32) (.const (.int .i64 1)))⟩, ⟨(some 33), none, (.mv (.tmp 34))⟩]) [1, 2, 32, 33] (.cond (.tmp 33) c69_t0 c69_t1)))
@[reducible] def c69_s2 : LC := (.seq (.ops [⟨(some 31), none, (.lea 0 (.tmp 1))⟩, ⟨(some 32), none, (.ld (.tmp 31))⟩]) [1, 2, 32] c69_s3)
@[reducible] def c69_s1 : LC := (.seq (.seq (.ops [⟨(some 28), none, (.lea 2 (.tmp 1))⟩, ⟨(some 29), none, (.ld (.tmp 28))⟩, ⟨(some 30), none, (.bin .neq .other (.tmp 29) (.const (.int .i64 0)))⟩]) [1, 2, 30] (.cond (.tmp 30) .ret .skip)) [1, 2] c69_s2)
@[reducible] def c69_s0 : LC := (.seq (.draw c69_d0) [1, 2] c69_s1)
@[reducible] def c69 : LC := (.seq (.ops [⟨(some 2), none, (.box 114 (.tmp 0))⟩]) [1, 2] c69_s0)
theorem c69_low : lowC Try.prog ⟨0, 80⟩ (.seq .leaf [1, 2] (.seq (.draw [[], [0], [0, 1], [0, 2], [2], [0, 1, 2, 3, 4], [2, 5], [2, 5, 6], [], [8], [0, 1, 2, 3, 4, 5, 8, 9], [0, 1, 2, 3, 4, 5, 8, 10], [2, 5, 10], [0, 1, 2, 3, 4, 5, 8, 9, 10, 11, 12], [], [14], [0, 1, 2, 3, 4, 5, 8, 9, 10, 11, 12, 13, 14, 15], [0, 2, 5, 10, 11, 13, 16], [2, 5, 10, 13, 16], [0, 1, 2, 3, 4, 5, 8, 9, 10, 11, 12, 13, 14, 15, 16, 17, 18], [2, 5, 10, 13, 16, 19], [2, 5, 10, 13, 16, 19], [0, 1, 2, 3, 4, 5, 6, 7, 8, 9, 10, 11, 12, 13, 14, 15, 16, 17, 18, 19, 21], [2, 5, 10, 13, 16, 19, 22], [0, 1, 2, 3, 4, 5, 6, 7, 8, 9, 10, 11, 12, 13, 14, 15, 16, 17, 18, 19, 21, 22, 23], [2, 5, 10, 13, 16, 19, 22, 24], [0, 1, 2, 3, 4, 5, 6, 7, 8, 9, 10, 11, 12, 13, 14, 15, 16, 17, 18, 19, 20, 21, 22, 23, 24, 25]] (.q 0 (.q 1 (.q 8 (.q 9 (.q 14 (.q 15 (.e 2 [8, 9, 14, 15] (.q 3 (.q 4 (.e 5 [8, 9, 14, 15] (.q 6 (.q 7 (.e 10 [14, 15, 6, 7] (.q 11 (.q 12 (.e 13 [14, 15, 6, 7] (.e 16 [6, 7] (.q 17 (.q 18 (.e 19 [6, 7] (.q 20 (.q 21 (.e 22 [20] (.q 23 (.e 24 [20] (.q 25 (.e 26 [] (.done))))))))))))))))))))))))))))) [1, 2] (.seq (.seq .leaf [1, 2, 30] (.cond .leaf .leaf)) [1, 2] (.seq .leaf [1, 2, 32] (.block (.seq .leaf [1, 2, 32, 33] (.cond .leaf (.seq .leaf [1, 2, 32, 42] (.cond (.draw [[], [0], [0, 1], [0, 2], [2], [0, 1, 2, 3, 4], [], [0, 1, 2, 3, 4, 5, 6], [2, 5, 7], [0, 1, 2, 3, 4, 5, 6, 7, 8], [2, 5, 7, 9], [0, 1, 2, 3, 4, 5, 6, 7, 8, 9, 10]] (.q 0 (.q 1 (.q 6 (.e 2 [6] (.q 3 (.q 4 (.e 5 [6] (.e 7 [] (.q 8 (.e 9 [] (.q 10 (.e 11 [] (.done)))))))))))))) (.seq .leaf [1, 2, 54] (.cond (.seq .leaf [1, 2, 3] (.seq (.seq .leaf [1, 2, 3, 63] (.cond .leaf .leaf)) [1, 2, 3] (.seq .leaf [1, 2, 65, 66] (.block (.loop [66] [1, 2, 65] (.seq .leaf [1, 2, 65, 66, 67] (.seq (.cond .leaf .leaf) [1, 2, 65, 66] (.seq (.block (.draw [[], [0], [], [2], [2, 3], [2, 4], [4], [2, 3, 4, 5, 6], [2, 3, 4, 5, 6, 7], [0, 1, 2, 3, 4, 5, 6, 7, 8], [4, 7, 8, 9], [0, 1, 2, 3, 4, 5, 6, 7, 8, 9, 10]] (.q 0 (.q 1 (.q 2 (.q 3 (.e 4 [0, 1] (.q 5 (.q 6 (.e 7 [0, 1] (.e 8 [0, 1] (.e 9 [] (.q 10 (.e 11 [] (.done))))))))))))))) [1, 2, 65, 66] .leaf)))))))) .leaf))))))))))) (Try.f69.body.getD .skip) = c69 := by kernel_rfl
theorem c69_ce {args : List Value} (ha : args.length ≤ 80) {h : H} {R : Ending → H → Prop} (hv : vc Try.prog c69 (retQ [] R) (argEnv args 0) h) : CallsE Try.prog 69 args.toArray h R :=
  callsE_of (res := []) Try.func69 rfl rfl rfl c69_low ha hv
theorem c69_ok {args : List Value} (ha : args.length ≤ 80) {h : H} {R : Value → H → Prop} (hv : vc Try.prog c69 (retQ [] (okR R)) (argEnv args 0) h) : Ok Try.prog 69 args.toArray h R :=
  ok_of (res := []) Try.func69 rfl rfl rfl c69_low ha hv

@[reducible] def c70_s4 : LC := (.ops [⟨(some 27), none, (.mv (.tmp 1))⟩, ⟨(some 28), none, (.bin .shr .other (.tmp 27) (.const (.int .u64 8)))⟩, ⟨(some 1), none, (.mv (.tmp 28))⟩])
@[reducible] def c70_s5 : LC := (.ops [⟨(some 20), none, (.mv (.tmp 2))⟩, ⟨(some 21), none, (.bin .sub .other (.tmp 20) (.const (.int .i64 1)))⟩, ⟨(some 2), none, (.mv (.tmp 21))⟩])
@[reducible] def c70_s3 : LC := (.seq (.block 1 (.seq (.ops [⟨(some 22), none, (.mv (.tmp 7))⟩, ⟨(some 23), none, (.mv (.tmp 1))⟩, ⟨(some 24), none, (.cvi .u8 (.tmp 23))⟩, ⟨(some 25), none, (.lit 5 1 #[(.int .u8 0)] [(0, 1, (.tmp 24))])⟩, ⟨(some 26), none, (.app 5 1 1 #[(.int .u8 0)] (.tmp 22) (.tmp 25))⟩, ⟨(some 7), none, (.mv (.tmp 26))⟩]) [1, 2, 7] c70_s4)) [1, 2, 7] c70_s5)
@[reducible] def c70_b0 : LC := (.seq (.seq (.ops [⟨(some 18), none, (.mv (.tmp 2))⟩, ⟨(some 19), none, (.bin .gtr .other (.tmp 18) (.const (.int .i64 0)))⟩]) [1, 2, 7, 19] (.cond (.tmp 19) .skip (.exit 0))) [1, 2, 7] c70_s3)
@[reducible] def c70_l0 : LC := .loop [1, 2, 7] [] c70_b0
@[reducible] def c70_s6 : LC := (.seq (.ops [⟨(some 29), none, (.mv (.tmp 7))⟩, ⟨(some 6), none, (.mv (.tmp 29))⟩]) [6] .ret)
@[reducible] def c70_s2 : LC := (.seq (.block 0 c70_l0) [7] c70_s6)
@[reducible] def c70_s1 : LC := (.seq (.ops [⟨(some 15), none, (.mv (.tmp 7))⟩, ⟨(some 16), none, (.mv (.tmp 0))⟩, ⟨(some 17), none, (.cpy 1 (.tmp 15) (.tmp 16))⟩]) [1, 2, 7] c70_s2)
@[reducible] def c70_s0 : LC := (.seq (.ops [⟨(some 8), none, (.mv (.tmp 0))⟩, ⟨(some 9), none, (.lenl (.tmp 8))⟩, ⟨(some 10), none, (.mv (.tmp 0))⟩, ⟨(some 11), none, (.lenl (.tmp 10))⟩, ⟨(some 12), none, (.mv (.tmp 2))⟩, ⟨(some 13), none, (.bin .add .other (.tmp 11) (.tmp 12))⟩, ⟨(some 14), none, (.mkslice 5 1 1 #[(.int .u8 0)] (.tmp 9) (.tmp 13))⟩, ⟨(some 7), none, (.mv (.tmp 14))⟩]) [0, 1, 2, 7] c70_s1)
@[reducible] def c70 : LC := (.seq (.ops [⟨(some 6), none, (.mv (.const (.slice none 0 0)))⟩]) [0, 1, 2] c70_s0)
theorem c70_low : lowC Try.prog ⟨0, 30⟩ (.seq .leaf [0, 1, 2] (.seq .leaf [0, 1, 2, 7] (.seq .leaf [1, 2, 7] (.seq (.block (.loop [1, 2, 7] [] (.seq (.seq .leaf [1, 2, 7, 19] (.cond .leaf .leaf)) [1, 2, 7] (.seq (.block (.seq .leaf [1, 2, 7] .leaf)) [1, 2, 7] .leaf)))) [7] (.seq .leaf [6] .leaf))))) (Try.f70.body.getD .skip) = c70 := by kernel_rfl
theorem c70_ce {args : List Value} (ha : args.length ≤ 30) {h : H} {R : Ending → H → Prop} (hv : vc Try.prog c70 (retQ [6] R) (argEnv args 0) h) : CallsE Try.prog 70 args.toArray h R :=
  callsE_of (res := [6]) Try.func70 rfl rfl rfl c70_low ha hv
theorem c70_ok {args : List Value} (ha : args.length ≤ 30) {h : H} {R : Value → H → Prop} (hv : vc Try.prog c70 (retQ [6] (okR R)) (argEnv args 0) h) : Ok Try.prog 70 args.toArray h R :=
  ok_of (res := [6]) Try.func70 rfl rfl rfl c70_low ha hv

@[reducible] def c71_t0 : LC := (.seq (.ops [⟨(some 4), none, (.mv (.const (.slice none 0 0)))⟩, ⟨(some 5), none, (.mv (.const (.int .i64 3)))⟩]) [4, 5] .ret)
@[reducible] def c71_s1 : LC := (.seq (.ops [⟨(some 9), none, (.mv (.tmp 0))⟩, ⟨(some 10), none, (.mv (.tmp 1))⟩, ⟨(some 11), none, (.lenl (.tmp 10))⟩, ⟨(some 12), none, (.cvi .u64 (.tmp 11))⟩, ⟨(some 13), none, (.call 70 [(.tmp 9), (.tmp 12), (.const (.int .i64 4))])⟩, ⟨(some 14), none, (.mv (.tmp 1))⟩, ⟨(some 15), none, (.app 5 1 1 #[(.int .u8 0)] (.tmp 13) (.tmp 14))⟩, ⟨(some 4), none, (.mv (.tmp 15))⟩, ⟨(some 5), none, (.mv (.const (.int .i64 0)))⟩]) [4, 5] .ret)
@[reducible] def c71_s0 : LC := (.seq (.seq (.ops [⟨(some 6), none, (.mv (.tmp 1))⟩, ⟨(some 7), none, (.lenl (.tmp 6))⟩, ⟨(some 8), none, (.bin .gtr .other (.tmp 7) (.const (.int .i64 16777216)))⟩]) [0, 1, 8] (.cond (.tmp 8) c71_t0 .skip)) [0, 1] c71_s1)
@[reducible] def c71 : LC := (.seq (.ops [⟨(some 4), none, (.mv (.const (.slice none 0 0)))⟩, ⟨(some 5), none, (.mv (.const (.int .i64 0)))⟩]) [0, 1] c71_s0)
theorem c71_low : lowC Try.prog ⟨0, 16⟩ (.seq .leaf [0, 1] (.seq (.seq .leaf [0, 1, 8] (.cond (.seq .leaf [4, 5] .leaf) .leaf)) [0, 1] (.seq .leaf [4, 5] .leaf))) (Try.f71.body.getD .skip) = c71 := by kernel_rfl
theorem c71_ce {args : List Value} (ha : args.length ≤ 16) {h : H} {R : Ending → H → Prop} (hv : vc Try.prog c71 (retQ [4, 5] R) (argEnv args 0) h) : CallsE Try.prog 71 args.toArray h R :=
  callsE_of (res := [4, 5]) Try.func71 rfl rfl rfl c71_low ha hv
theorem c71_ok {args : List Value} (ha : args.length ≤ 16) {h : H} {R : Value → H → Prop} (hv : vc Try.prog c71 (retQ [4, 5] (okR R)) (argEnv args 0) h) : Ok Try.prog 71 args.toArray h R :=
  ok_of (res := [4, 5]) Try.func71 rfl rfl rfl c71_low ha hv

@[reducible] def c72_s0 : LC := (.seq (.ops [⟨(some 3), none, (.lea 0 (.tmp 1))⟩, ⟨(some 4), none, (.ld (.tmp 3))⟩, ⟨(some 5), none, (.bin .geq .other (.tmp 4) (.const (.int .i64 0)))⟩, ⟨(some 6), none, (.mv (.tmp 5))⟩, ⟨(some 7), (some (6, true)), (.lea 0 (.tmp 1))⟩, ⟨(some 8), (some (6, true)), (.ld (.tmp 7))⟩, ⟨(some 9), (some (6, true)), (.bin .leq .other (.tmp 8) (.const (.int .i64 9007199254740992)))⟩, ⟨(some 10), none, (.pick (.tmp 6) (.tmp 9) (.const (.bool false)))⟩, ⟨(some 11), none, (.mv (.tmp 10))⟩, ⟨(some 12), (some (11, true)), (.lea 1 (.tmp 1))⟩, ⟨(some 13), (some (11, true)), (.ld (.tmp 12))⟩, ⟨(some 14), (some (11, true)), (.lenl (.tmp 13))⟩, ⟨(some 15), (some (11, true)), (.bin .leq .other (.tmp 14) (.const (.int .i64 256)))⟩, ⟨(some 16), none, (.pick (.tmp 11) (.tmp 15) (.const (.bool false)))⟩, ⟨(some 17), none, (.mv (.tmp 16))⟩, ⟨(some 18), (some (17, true)), (.lea 2 (.tmp 1))⟩, ⟨(some 19), (some (17, true)), (.ld (.tmp 18))⟩, ⟨(some 20), (some (17, true)), (.lenl (.tmp 19))⟩, ⟨(some 21), (some (17, true)), (.bin .leq .other (.tmp 20) (.const (.int .i64 4096)))⟩, ⟨(some 22), none, (.pick (.tmp 17) (.tmp 21) (.const (.bool false)))⟩, ⟨(some 2), none, (.mv (.tmp 22))⟩]) [2] .ret)
@[reducible] def c72 : LC := (.seq (.ops [⟨(some 1), none, (.box 32 (.tmp 0))⟩, ⟨(some 2), none, (.mv (.const (.bool false)))⟩]) [1] c72_s0)
theorem c72_low : lowC Try.prog ⟨0, 23⟩ (.seq .leaf [1] (.seq .leaf [2] .leaf)) (Try.f72.body.getD .skip) = c72 := by kernel_rfl
theorem c72_ce {args : List Value} (ha : args.length ≤ 23) {h : H} {R : Ending → H → Prop} (hv : vc Try.prog c72 (retQ [2] R) (argEnv args 0) h) : CallsE Try.prog 72 args.toArray h R :=
  callsE_of (res := [2]) Try.func72 rfl rfl rfl c72_low ha hv
theorem c72_ok {args : List Value} (ha : args.length ≤ 23) {h : H} {R : Value → H → Prop} (hv : vc Try.prog c72 (retQ [2] (okR R)) (argEnv args 0) h) : Ok Try.prog 72 args.toArray h R :=
  ok_of (res := [2]) Try.func72 rfl rfl rfl c72_low ha hv

@[reducible] def c73_s0 : LC := (.seq (.ops [⟨(some 3), none, (.lea 0 (.tmp 1))⟩, ⟨(some 4), none, (.ld (.tmp 3))⟩, ⟨(some 5), none, (.bin .geq .other (.tmp 4) (.const (.int .i64 0)))⟩, ⟨(some 6), none, (.mv (.tmp 5))⟩, ⟨(some 7), (some (6, true)), (.lea 0 (.tmp 1))⟩, ⟨(some 8), (some (6, true)), (.ld (.tmp 7))⟩, ⟨(some 9), (some (6, true)), (.bin .leq .other (.tmp 8) (.const (.int .i64 9007199254740992)))⟩, ⟨(some 10), none, (.pick (.tmp 6) (.tmp 9) (.const (.bool false)))⟩, ⟨(some 11), none, (.mv (.tmp 10))⟩, ⟨(some 12), (some (11, true)), (.lea 1 (.tmp 1))⟩, ⟨(some 13), (some (11, true)), (.ld (.tmp 12))⟩, ⟨(some 14), (some (11, true)), (.lenl (.tmp 13))⟩, ⟨(some 15), (some (11, true)), (.bin .leq .other (.tmp 14) (.const (.int .i64 256)))⟩, ⟨(some 16), none, (.pick (.tmp 11) (.tmp 15) (.const (.bool false)))⟩, ⟨(some 17), none, (.mv (.tmp 16))⟩, ⟨(some 18), (some (17, true)), (.lea 2 (.tmp 1))⟩, ⟨(some 19), (some (17, true)), (.ld (.tmp 18))⟩, ⟨(some 20), (some (17, true)), (.lenl (.tmp 19))⟩, ⟨(some 21), (some (17, true)), (.bin .leq .other (.tmp 20) (.const (.int .i64 4096)))⟩, ⟨(some 22), none, (.pick (.tmp 17) (.tmp 21) (.const (.bool false)))⟩, ⟨(some 2), none, (.mv (.tmp 22))⟩]) [2] .ret)
@[reducible] def c73 : LC := (.seq (.ops [⟨(some 1), none, (.box 32 (.tmp 0))⟩, ⟨(some 2), none, (.mv (.const (.bool false)))⟩]) [1] c73_s0)
theorem c73_low : lowC Try.prog ⟨0, 23⟩ (.seq .leaf [1] (.seq .leaf [2] .leaf)) (Try.f73.body.getD .skip) = c73 := by kernel_rfl
theorem c73_ce {args : List Value} (ha : args.length ≤ 23) {h : H} {R : Ending → H → Prop} (hv : vc Try.prog c73 (retQ [2] R) (argEnv args 0) h) : CallsE Try.prog 73 args.toArray h R :=
  callsE_of (res := [2]) Try.func73 rfl rfl rfl c73_low ha hv
theorem c73_ok {args : List Value} (ha : args.length ≤ 23) {h : H} {R : Value → H → Prop} (hv : vc Try.prog c73 (retQ [2] (okR R)) (argEnv args 0) h) : Ok Try.prog 73 args.toArray h R :=
  ok_of (res := [2]) Try.func73 rfl rfl rfl c73_low ha hv

@[reducible] def c74_t0 : LC := (.seq (.ops [⟨(some 6), none, (.mv (.const (.bool false)))⟩]) [6] .ret)
@[reducible] def c74_t1 : LC := (.seq (.ops [⟨(some 6), none, (.mv (.const (.bool false)))⟩]) [6] .ret)
@[reducible] def c74_s6 : LC := (.seq (.ops [⟨(some 26), none, (.mv (.tmp 2))⟩, ⟨(some 27), none, (.ldn 3 (.tmp 8))⟩, ⟨(some 28), none, (.ldn 3 (.tmp 9))⟩, ⟨(some 29), none, (.callv (.tmp 26) [(.tmp 27), (.tmp 28)])⟩, ⟨(some 30), none, (.un .not (.tmp 29))⟩]) [1, 2, 15, 16, 17, 30] (.cond (.tmp 30) c74_t1 .skip))
@[reducible] def c74_s5 : LC := (.seq (.ops [⟨(some 22), none, (.mv (.tmp 1))⟩, ⟨(some 23), none, (.mv (.tmp 7))⟩, ⟨(some 24), none, (.idx 3 (.tmp 22) (.tmp 23))⟩, ⟨(some 25), none, (.ldn 3 (.tmp 24))⟩, ⟨(some 9), none, (.new 32 #[(.int .i64 0), (.slice none 0 0), (.slice none 0 0)])⟩, ⟨none, none, (.stn 3 (.tmp 9) (.tmp 25))⟩]) [1, 2, 8, 9, 15, 16, 17] c74_s6)
@[reducible] def c74_s7 : LC := (.ops [⟨(some 31), none, (.bin .add .other (.tmp 17) (.const (.int .i64 1)))⟩, ⟨(some 17), none, (.mv (.tmp 31))⟩])
@[reducible] def c74_s4 : LC := (.seq (.block 1 (.seq (.ops [⟨(some 19), none, (.mv (.tmp 17))⟩, ⟨(some 20), none, (.idx 3 (.tmp 15) (.tmp 17))⟩, ⟨(some 21), none, (.ldn 3 (.tmp 20))⟩, ⟨(some 8), none, (.new 32 #[(.int .i64 0), (.slice none 0 0), (.slice none 0 0)])⟩, ⟨(some 7), none, (.mv (.tmp 19))⟩, ⟨none, none, (.stn 3 (.tmp 8) (.tmp 21))⟩]) [1, 2, 7, 8, 15, 16, 17] c74_s5)) [1, 2, 15, 16, 17] c74_s7)
@[reducible] def c74_s3 : LC := (.seq (.cond (.tmp 18) .skip (.exit 0)) [1, 2, 15, 16, 17] c74_s4)
@[reducible] def c74_b0 : LC := (.seq (.ops [⟨(some 18), none, (.bin .lss .other (.tmp 17) (.tmp 16))⟩]) [1, 2, 15, 16, 17, 18] c74_s3)
@[reducible] def c74_l0 : LC := .loop [17] [1, 2, 15, 16] c74_b0
@[reducible] def c74_s2 : LC := (.block 0 c74_l0)
@[reducible] def c74_s8 : LC := (.seq (.ops [⟨(some 6), none, (.mv (.const (.bool true)))⟩]) [6] .ret)
@[reducible] def c74_s1 : LC := (.seq (.seq (.ops [⟨(some 15), none, (.mv (.tmp 0))⟩, ⟨(some 16), none, (.lenl (.tmp 15))⟩, ⟨(some 17), none, (.mv (.const (.int .i64 0)))⟩]) [1, 2, 15, 16, 17] c74_s2) [] c74_s8)
@[reducible] def c74_s0 : LC := (.seq (.seq (.ops [⟨(some 10), none, (.mv (.tmp 0))⟩, ⟨(some 11), none, (.lenl (.tmp 10))⟩, ⟨(some 12), none, (.mv (.tmp 1))⟩, ⟨(some 13), none, (.lenl (.tmp 12))⟩, ⟨(some 14), none, (.bin .neq .other (.tmp 11) (.tmp 13))⟩]) [0, 1, 2, 14] (.cond (.tmp 14) c74_t0 .skip)) [0, 1, 2] c74_s1)
@[reducible] def c74 : LC := (.seq (.ops [⟨(some 6), none, (.mv (.const (.bool false)))⟩]) [0, 1, 2] c74_s0)
theorem c74_low : lowC Try.prog ⟨0, 32⟩ (.seq .leaf [0, 1, 2] (.seq (.seq .leaf [0, 1, 2, 14] (.cond (.seq .leaf [6] .leaf) .leaf)) [0, 1, 2] (.seq (.seq .leaf [1, 2, 15, 16, 17] (.block (.loop [17] [1, 2, 15, 16] (.seq .leaf [1, 2, 15, 16, 17, 18] (.seq (.cond .leaf .leaf) [1, 2, 15, 16, 17] (.seq (.block (.seq .leaf [1, 2, 7, 8, 15, 16, 17] (.seq .leaf [1, 2, 8, 9, 15, 16, 17] (.seq .leaf [1, 2, 15, 16, 17, 30] (.cond (.seq .leaf [6] .leaf) .leaf))))) [1, 2, 15, 16, 17] .leaf)))))) [] (.seq .leaf [6] .leaf)))) (Try.f74.body.getD .skip) = c74 := by kernel_rfl
theorem c74_ce {args : List Value} (ha : args.length ≤ 32) {h : H} {R : Ending → H → Prop} (hv : vc Try.prog c74 (retQ [6] R) (argEnv args 0) h) : CallsE Try.prog 74 args.toArray h R :=
  callsE_of (res := [6]) Try.func74 rfl rfl rfl c74_low ha hv
theorem c74_ok {args : List Value} (ha : args.length ≤ 32) {h : H} {R : Value → H → Prop} (hv : vc Try.prog c74 (retQ [6] (okR R)) (argEnv args 0) h) : Ok Try.prog 74 args.toArray h R :=
  ok_of (res := [6]) Try.func74 rfl rfl rfl c74_low ha hv

@[reducible] def c75_s0 : LC := (.seq (.ops [⟨(some 5), none, (.lea 0 (.tmp 2))⟩, ⟨(some 6), none, (.ld (.tmp 5))⟩, ⟨(some 7), none, (.lea 0 (.tmp 3))⟩, ⟨(some 8), none, (.ld (.tmp 7))⟩, ⟨(some 9), none, (.bin .eql .other (.tmp 6) (.tmp 8))⟩, ⟨(some 10), none, (.mv (.tmp 9))⟩, ⟨(some 11), (some (10, true)), (.lea 1 (.tmp 2))⟩, ⟨(some 12), (some (10, true)), (.ld (.tmp 11))⟩, ⟨(some 13), (some (10, true)), (.lea 1 (.tmp 3))⟩, ⟨(some 14), (some (10, true)), (.ld (.tmp 13))⟩, ⟨(some 15), (some (10, true)), (.call 85 [(.tmp 12), (.tmp 14)])⟩, ⟨(some 16), none, (.pick (.tmp 10) (.tmp 15) (.const (.bool false)))⟩, ⟨(some 17), none, (.mv (.tmp 16))⟩, ⟨(some 18), (some (17, true)), (.lea 2 (.tmp 2))⟩, ⟨(some 19), (some (17, true)), (.ld (.tmp 18))⟩, ⟨(some 20), (some (17, true)), (.lea 2 (.tmp 3))⟩, ⟨(some 21), (some (17, true)), (.ld (.tmp 20))⟩, ⟨(some 22), (some (17, true)), (.call 85 [(.tmp 19), (.tmp 21)])⟩, ⟨(some 23), none, (.pick (.tmp 17) (.tmp 22) (.const (.bool false)))⟩, ⟨(some 4), none, (.mv (.tmp 23))⟩]) [4] .ret)
@[reducible] def c75 : LC := (.seq (.ops [⟨(some 2), none, (.box 32 (.tmp 0))⟩, ⟨(some 3), none, (.box 32 (.tmp 1))⟩, ⟨(some 4), none, (.mv (.const (.bool false)))⟩]) [2, 3] c75_s0)
theorem c75_low : lowC Try.prog ⟨0, 24⟩ (.seq .leaf [2, 3] (.seq .leaf [4] .leaf)) (Try.f75.body.getD .skip) = c75 := by kernel_rfl
theorem c75_ce {args : List Value} (ha : args.length ≤ 24) {h : H} {R : Ending → H → Prop} (hv : vc Try.prog c75 (retQ [4] R) (argEnv args 0) h) : CallsE Try.prog 75 args.toArray h R :=
  callsE_of (res := [4]) Try.func75 rfl rfl rfl c75_low ha hv
theorem c75_ok {args : List Value} (ha : args.length ≤ 24) {h : H} {R : Value → H → Prop} (hv : vc Try.prog c75 (retQ [4] (okR R)) (argEnv args 0) h) : Ok Try.prog 75 args.toArray h R :=
  ok_of (res := [4]) Try.func75 rfl rfl rfl c75_low ha hv

@[reducible] def c76_s0 : LC := (.seq (.ops [⟨(some 3), none, (.mv (.tmp 0))⟩, ⟨(some 4), none, (.lenl (.tmp 3))⟩, ⟨(some 5), none, (.cvi .u64 (.tmp 4))⟩, ⟨(some 6), none, (.call 48 [(.tmp 5), (.const (.int .i64 4))])⟩, ⟨(some 7), none, (.mv (.tmp 0))⟩, ⟨(some 8), none, (.app 5 1 1 #[(.int .u8 0)] (.tmp 6) (.tmp 7))⟩, ⟨(some 2), none, (.mv (.tmp 8))⟩]) [2] .ret)
@[reducible] def c76 : LC := (.seq (.ops [⟨(some 2), none, (.mv (.const (.slice none 0 0)))⟩]) [0] c76_s0)
theorem c76_low : lowC Try.prog ⟨0, 9⟩ (.seq .leaf [0] (.seq .leaf [2] .leaf)) (Try.f76.body.getD .skip) = c76 := by kernel_rfl
theorem c76_ce {args : List Value} (ha : args.length ≤ 9) {h : H} {R : Ending → H → Prop} (hv : vc Try.prog c76 (retQ [2] R) (argEnv args 0) h) : CallsE Try.prog 76 args.toArray h R :=
  callsE_of (res := [2]) Try.func76 rfl rfl rfl c76_low ha hv
theorem c76_ok {args : List Value} (ha : args.length ≤ 9) {h : H} {R : Value → H → Prop} (hv : vc Try.prog c76 (retQ [2] (okR R)) (argEnv args 0) h) : Ok Try.prog 76 args.toArray h R :=
  ok_of (res := [2]) Try.func76 rfl rfl rfl c76_low ha hv

@[reducible] def c77_s0 : LC := (.seq (.ops [⟨(some 3), none, (.mv (.tmp 0))⟩, ⟨(some 4), none, (.call 86 [(.const (.int .u32 0)), (.tmp 3)])⟩, ⟨(some 2), none, (.mv (.tmp 4))⟩]) [2] .ret)
@[reducible] def c77 : LC := (.seq (.ops [⟨(some 2), none, (.mv (.const (.int .u32 0)))⟩]) [0] c77_s0)
theorem c77_low : lowC Try.prog ⟨0, 5⟩ (.seq .leaf [0] (.seq .leaf [2] .leaf)) (Try.f77.body.getD .skip) = c77 := by kernel_rfl
theorem c77_ce {args : List Value} (ha : args.length ≤ 5) {h : H} {R : Ending → H → Prop} (hv : vc Try.prog c77 (retQ [2] R) (argEnv args 0) h) : CallsE Try.prog 77 args.toArray h R :=
  callsE_of (res := [2]) Try.func77 rfl rfl rfl c77_low ha hv
theorem c77_ok {args : List Value} (ha : args.length ≤ 5) {h : H} {R : Value → H → Prop} (hv : vc Try.prog c77 (retQ [2] (okR R)) (argEnv args 0) h) : Ok Try.prog 77 args.toArray h R :=
  ok_of (res := [2]) Try.func77 rfl rfl rfl c77_low ha hv

@[reducible] def c78_t0 : LC := (.seq (.ops [⟨(some 4), none, (.mv (.const (.int .u64 0)))⟩, ⟨(some 5), none, (.mv (.const (.int .i64 1)))⟩]) [4, 5] .ret)
@[reducible] def c78_d0 : DT := .q 0 ⟨(some 12), none, (.mv (.tmp 0))⟩ (.q 1 ⟨(some 13), none, (.nilck (.tmp 12))⟩ (.q 2 ⟨(some 14), none, (.lea 0 (.tmp 13))⟩ (.q 3 ⟨(some 15), none, (.ld (.tmp 14))⟩ (.q 4 ⟨(some 16), none, (.lenl (.tmp 15))⟩ (.q 5 ⟨(some 17), none, (.mv (.tmp 0))⟩ (.q 6 ⟨(some 18), none, (.nilck (.tmp 17))⟩ (.q 7 ⟨(some 19), none, (.lea 1 (.tmp 18))⟩ (.q 8 ⟨(some 20), none, (.ld (.tmp 19))⟩ (.q 9 ⟨(some 21), none, (.bin .sub .other (.tmp 16) (.tmp 20))⟩ (.q 10 ⟨(some 22), none, (.mv (.tmp 1))⟩ (.q 11 ⟨(some 23), none, (.bin .lss .other (.tmp 21) (.tmp 22))⟩ (.q 12 ⟨(some 11), none, (.mv (.tmp 23))⟩ (.done)))))))))))))
@[reducible] def c78_t2 : LC := (.seq (.ops [⟨(some 4), none, (.mv (.const (.int .u64 0)))⟩, ⟨(some 5), none, (.mv (.const (.int .i64 111)))⟩]) [4, 5] .ret)
@[reducible] def c78_t1 : LC := (.seq (.draw c78_d0) [0, 1, 11] (.cond (.tmp 11) c78_t2 .skip))
@[reducible] def c78_d1 : DT := .q 0 ⟨(some 30), none, (.mv (.tmp 6))⟩ (.q 1 ⟨(some 31), none, (.bin .shl .other (.tmp 30) (.const (.int .u64 8)))⟩ (.q 2 ⟨(some 32), none, (.mv (.tmp 0))⟩ (.q 3 ⟨(some 33), none, (.nilck (.tmp 32))⟩ (.q 4 ⟨(some 34), none, (.lea 0 (.tmp 33))⟩ (.q 5 ⟨(some 35), none, (.ld (.tmp 34))⟩ (.q 6 ⟨(some 36), none, (.mv (.tmp 0))⟩ (.q 7 ⟨(some 37), none, (.nilck (.tmp 36))⟩ (.q 8 ⟨(some 38), none, (.lea 1 (.tmp 37))⟩ (.q 9 ⟨(some 39), none, (.ld (.tmp 38))⟩ (.q 10 ⟨(some 40), none, (.mv (.tmp 7))⟩ (.q 11 ⟨(some 41), none, (.bin .add .other (.tmp 39) (.tmp 40))⟩ (.q 12 ⟨(some 42), none, (.idx 1 (.tmp 35) (.tmp 41))⟩ (.q 13 ⟨(some 43), none, (.ld (.tmp 42))⟩ (.q 14 ⟨(some 44), none, (.cvi .u64 (.tmp 43))⟩ (.q 15 ⟨(some 45), none, (.bin .or .other (.tmp 31) (.tmp 44))⟩ (.q 16 ⟨(some 6), none, (.mv (.tmp 45))⟩ (.done)))))))))))))))))
@[reducible] def c78_s5 : LC := (.ops [⟨(some 28), none, (.mv (.tmp 7))⟩, ⟨(some 29), none, (.bin .sub .other (.tmp 28) (.const (.int .i64 1)))⟩, ⟨(some 7), none, (.mv (.tmp 29))⟩])
@[reducible] def c78_s4 : LC := (.seq (.block 2 (.draw c78_d1)) [0, 1, 6, 7] c78_s5)
@[reducible] def c78_b0 : LC := (.seq (.seq (.ops [⟨(some 26), none, (.mv (.tmp 7))⟩, ⟨(some 27), none, (.bin .geq .other (.tmp 26) (.const (.int .i64 0)))⟩]) [0, 1, 6, 7, 27] (.cond (.tmp 27) .skip (.exit 1))) [0, 1, 6, 7] c78_s4)
@[reducible] def c78_l0 : LC := .loop [6, 7] [0, 1] c78_b0
@[reducible] def c78_s3 : LC := (.block 1 c78_l0)
@[reducible] def c78_s7 : LC := (.seq (.ops [⟨(some 54), none, (.mv (.tmp 6))⟩, ⟨(some 4), none, (.mv (.tmp 54))⟩, ⟨(some 5), none, (.mv (.const (.int .i64 0)))⟩]) [4, 5] .ret)
@[reducible] def c78_s6 : LC := (.seq (.ops [⟨(some 46), none, (.mv (.tmp 0))⟩, ⟨(some 47), none, (.nilck (.tmp 46))⟩, ⟨(some 48), none, (.lea 1 (.tmp 47))⟩, ⟨(some 49), none, (.ld (.tmp 48))⟩, ⟨(some 50), none, (.mv (.tmp 1))⟩, ⟨(some 51), none, (.bin .add .other (.tmp 49) (.tmp 50))⟩, ⟨(some 52), none, (.nilck (.tmp 46))⟩, ⟨(some 53), none, (.lea 1 (.tmp 52))⟩, ⟨none, none, (.st (.tmp 53) (.tmp 51))⟩]) [6] c78_s7)
@[reducible] def c78_s2 : LC := (.seq (.seq (.ops [⟨(some 24), none, (.mv (.tmp 1))⟩, ⟨(some 25), none, (.bin .sub .other (.tmp 24) (.const (.int .i64 1)))⟩, ⟨(some 7), none, (.mv (.tmp 25))⟩]) [0, 1, 6, 7] c78_s3) [0, 1, 6] c78_s6)
@[reducible] def c78_s1 : LC := (.seq (.ops [⟨(some 6), none, (.mv (.const (.int .u64 0)))⟩]) [0, 1, 6] c78_s2)
@[reducible] def c78_s0 : LC := (.seq (.block 0 (.seq (.ops [⟨(some 9), none, (.mv (.tmp 0))⟩, ⟨(some 10), none, (.call 87 [(.tmp 9)])⟩, ⟨(some 8), none, (.mv (.tmp 10))⟩]) [0, 1, 8] (.cond (.tmp 8) c78_t0 c78_t1))) [0, 1] c78_s1)
@[reducible] def c78 : LC := (.seq (.ops [⟨(some 4), none, (.mv (.const (.int .u64 0)))⟩, ⟨(some 5), none, (.mv (.const (.int .i64 0)))⟩]) [0, 1] c78_s0)
theorem c78_low : lowC Try.prog ⟨0, 55⟩ (.seq .leaf [0, 1] (.seq (.block (.seq .leaf [0, 1, 8] (.cond (.seq .leaf [4, 5] .leaf) (.seq (.draw [[], [0], [1], [2], [3], [], [5], [6], [7], [4, 8], [], [9, 10], [11]] (.q 0 (.q 1 (.q 2 (.q 3 (.q 4 (.q 5 (.q 6 (.q 7 (.q 8 (.q 9 (.q 10 (.q 11 (.q 12 (.done))))))))))))))) [0, 1, 11] (.cond (.seq .leaf [4, 5] .leaf) .leaf))))) [0, 1] (.seq .leaf [0, 1, 6] (.seq (.seq .leaf [0, 1, 6, 7] (.block (.loop [6, 7] [0, 1] (.seq (.seq .leaf [0, 1, 6, 7, 27] (.cond .leaf .leaf)) [0, 1, 6, 7] (.seq (.block (.draw [[], [0], [], [2], [3], [4], [], [6], [7], [8], [], [9, 10], [5, 11], [12], [13], [1, 14], [0, 15]] (.q 0 (.q 1 (.q 2 (.q 3 (.q 4 (.q 5 (.q 6 (.q 7 (.q 8 (.q 9 (.q 10 (.q 11 (.q 12 (.q 13 (.q 14 (.q 15 (.q 16 (.done)))))))))))))))))))) [0, 1, 6, 7] .leaf))))) [0, 1, 6] (.seq .leaf [6] (.seq .leaf [4, 5] .leaf)))))) (Try.f78.body.getD .skip) = c78 := by kernel_rfl
theorem c78_ce {args : List Value} (ha : args.length ≤ 55) {h : H} {R : Ending → H → Prop} (hv : vc Try.prog c78 (retQ [4, 5] R) (argEnv args 0) h) : CallsE Try.prog 78 args.toArray h R :=
  callsE_of (res := [4, 5]) Try.func78 rfl rfl rfl c78_low ha hv
theorem c78_ok {args : List Value} (ha : args.length ≤ 55) {h : H} {R : Value → H → Prop} (hv : vc Try.prog c78 (retQ [4, 5] (okR R)) (argEnv args 0) h) : Ok Try.prog 78 args.toArray h R :=
  ok_of (res := [4, 5]) Try.func78 rfl rfl rfl c78_low ha hv

@[reducible] def c79_s7 : LC := (.ops [⟨(some 26), none, (.mv (.tmp 0))⟩, ⟨(some 27), none, (.bin .and .other (.tmp 26) (.const (.int .u32 15)))⟩, ⟨(some 28), none, (.idxp 16 1 (.tmp 5) (.tmp 27))⟩, ⟨(some 29), none, (.ld (.tmp 28))⟩, ⟨(some 30), none, (.mv (.tmp 0))⟩, ⟨(some 31), none, (.bin .shr .other (.tmp 30) (.const (.int .u64 4)))⟩, ⟨(some 32), none, (.bin .xor .other (.tmp 29) (.tmp 31))⟩, ⟨(some 0), none, (.mv (.tmp 32))⟩])
@[reducible] def c79_s6 : LC := (.seq (.ops [⟨(some 19), none, (.mv (.tmp 0))⟩, ⟨(some 20), none, (.bin .and .other (.tmp 19) (.const (.int .u32 15)))⟩, ⟨(some 21), none, (.idxp 16 1 (.tmp 5) (.tmp 20))⟩, ⟨(some 22), none, (.ld (.tmp 21))⟩, ⟨(some 23), none, (.mv (.tmp 0))⟩, ⟨(some 24), none, (.bin .shr .other (.tmp 23) (.const (.int .u64 4)))⟩, ⟨(some 25), none, (.bin .xor .other (.tmp 22) (.tmp 24))⟩, ⟨(some 0), none, (.mv (.tmp 25))⟩]) [0, 5, 9, 10, 11] c79_s7)
@[reducible] def c79_s5 : LC := (.seq (.ops [⟨(some 15), none, (.mv (.tmp 0))⟩, ⟨(some 16), none, (.mv (.tmp 7))⟩, ⟨(some 17), none, (.cvi .u32 (.tmp 16))⟩, ⟨(some 18), none, (.bin .xor .other (.tmp 15) (.tmp 17))⟩, ⟨(some 0), none, (.mv (.tmp 18))⟩]) [0, 5, 9, 10, 11] c79_s6)
@[reducible] def c79_s8 : LC := (.ops [⟨(some 33), none, (.bin .add .other (.tmp 11) (.const (.int .i64 1)))⟩, ⟨(some 11), none, (.mv (.tmp 33))⟩])
@[reducible] def c79_s4 : LC := (.seq (.block 1 (.seq (.ops [⟨(some 13), none, (.idx 1 (.tmp 9) (.tmp 11))⟩, ⟨(some 14), none, (.ld (.tmp 13))⟩, ⟨(some 7), none, (.mv (.tmp 14))⟩]) [0, 5, 7, 9, 10, 11] c79_s5)) [0, 5, 9, 10, 11] c79_s8)
@[reducible] def c79_s3 : LC := (.seq (.cond (.tmp 12) .skip (.exit 0)) [0, 5, 9, 10, 11] c79_s4)
@[reducible] def c79_b0 : LC := (.seq (.ops [⟨(some 12), none, (.bin .lss .other (.tmp 11) (.tmp 10))⟩]) [0, 5, 9, 10, 11, 12] c79_s3)
@[reducible] def c79_l0 : LC := .loop [0, 11] [5, 9, 10] c79_b0
@[reducible] def c79_s2 : LC := (.block 0 c79_l0)
@[reducible] def c79_s9 : LC := (.seq (.ops [⟨(some 34), none, (.mv (.tmp 0))⟩, ⟨(some 4), none, (.mv (.tmp 34))⟩]) [4] .ret)
@[reducible] def c79_s1 : LC := (.seq (.seq (.ops [⟨(some 9), none, (.mv (.tmp 1))⟩, ⟨(some 10), none, (.lenl (.tmp 9))⟩, ⟨(some 11), none, (.mv (.const (.int .i64 0)))⟩]) [0, 5, 9, 10, 11] c79_s2) [0] c79_s9)
@[reducible] def c79_s0 : LC := (.seq (.ops [⟨(some 8), none, (.call 88 [])⟩, ⟨(some 5), none, (.new 143 #[(.int .u32 0), (.int .u32 0), (.int .u32 0), (.int .u32 0), (.int .u32 0), (.int .u32 0), (.int .u32 0), (.int .u32 0), (.int .u32 0), (.int .u32 0), (.int .u32 0), (.int .u32 0), (.int .u32 0), (.int .u32 0), (.int .u32 0), (.int .u32 0)])⟩, ⟨none, none, (.stn 16 (.tmp 5) (.tmp 8))⟩]) [0, 1, 5] c79_s1)
@[reducible] def c79 : LC := (.seq (.ops [⟨(some 4), none, (.mv (.const (.int .u32 0)))⟩]) [0, 1] c79_s0)
theorem c79_low : lowC Try.prog ⟨0, 35⟩ (.seq .leaf [0, 1] (.seq .leaf [0, 1, 5] (.seq (.seq .leaf [0, 5, 9, 10, 11] (.block (.loop [0, 11] [5, 9, 10] (.seq .leaf [0, 5, 9, 10, 11, 12] (.seq (.cond .leaf .leaf) [0, 5, 9, 10, 11] (.seq (.block (.seq .leaf [0, 5, 7, 9, 10, 11] (.seq .leaf [0, 5, 9, 10, 11] (.seq .leaf [0, 5, 9, 10, 11] .leaf)))) [0, 5, 9, 10, 11] .leaf)))))) [0] (.seq .leaf [4] .leaf)))) (Try.f79.body.getD .skip) = c79 := by kernel_rfl
theorem c79_ce {args : List Value} (ha : args.length ≤ 35) {h : H} {R : Ending → H → Prop} (hv : vc Try.prog c79 (retQ [4] R) (argEnv args 0) h) : CallsE Try.prog 79 args.toArray h R :=
  callsE_of (res := [4]) Try.func79 rfl rfl rfl c79_low ha hv
theorem c79_ok {args : List Value} (ha : args.length ≤ 35) {h : H} {R : Value → H → Prop} (hv : vc Try.prog c79 (retQ [4] (okR R)) (argEnv args 0) h) : Ok Try.prog 79 args.toArray h R :=
  ok_of (res := [4]) Try.func79 rfl rfl rfl c79_low ha hv

@[reducible] def c80_s4 : LC := (.ops [⟨(some 10), none, (.mv (.tmp 4))⟩, ⟨(some 11), none, (.bin .sub .other (.tmp 10) (.const (.int .i64 1)))⟩, ⟨(some 4), none, (.mv (.tmp 11))⟩])
@[reducible] def c80_s3 : LC := (.seq (.block 1 (.ops [⟨(some 12), none, (.mv (.tmp 3))⟩, ⟨(some 13), none, (.bin .mul .other (.const (.int .u64 256)) (.tmp 12))⟩, ⟨(some 14), none, (.mv (.tmp 0))⟩, ⟨(some 15), none, (.mv (.tmp 4))⟩, ⟨(some 16), none, (.idx 1 (.tmp 14) (.tmp 15))⟩, ⟨(some 17), none, (.ld (.tmp 16))⟩, ⟨(some 18), none, (.cvi .u64 (.tmp 17))⟩, ⟨(some 19), none, (.bin .add .other (.tmp 13) (.tmp 18))⟩, ⟨(some 3), none, (.mv (.tmp 19))⟩])) [0, 3, 4] c80_s4)
@[reducible] def c80_b0 : LC := (.seq (.seq (.ops [⟨(some 8), none, (.mv (.tmp 4))⟩, ⟨(some 9), none, (.bin .geq .other (.tmp 8) (.const (.int .i64 0)))⟩]) [0, 3, 4, 9] (.cond (.tmp 9) .skip (.exit 0))) [0, 3, 4] c80_s3)
@[reducible] def c80_l0 : LC := .loop [3, 4] [0] c80_b0
@[reducible] def c80_s2 : LC := (.block 0 c80_l0)
@[reducible] def c80_s5 : LC := (.seq (.ops [⟨(some 20), none, (.mv (.tmp 3))⟩, ⟨(some 2), none, (.mv (.tmp 20))⟩]) [2] .ret)
@[reducible] def c80_s1 : LC := (.seq (.seq (.ops [⟨(some 5), none, (.mv (.tmp 0))⟩, ⟨(some 6), none, (.lenl (.tmp 5))⟩, ⟨(some 7), none, (.bin .sub .other (.tmp 6) (.const (.int .i64 1)))⟩, ⟨(some 4), none, (.mv (.tmp 7))⟩]) [0, 3, 4] c80_s2) [3] c80_s5)
@[reducible] def c80_s0 : LC := (.seq (.ops [⟨(some 3), none, (.mv (.const (.int .u64 0)))⟩]) [0, 3] c80_s1)
@[reducible] def c80 : LC := (.seq (.ops [⟨(some 2), none, (.mv (.const (.int .u64 0)))⟩]) [0] c80_s0)
theorem c80_low : lowC Try.prog ⟨0, 21⟩ (.seq .leaf [0] (.seq .leaf [0, 3] (.seq (.seq .leaf [0, 3, 4] (.block (.loop [3, 4] [0] (.seq (.seq .leaf [0, 3, 4, 9] (.cond .leaf .leaf)) [0, 3, 4] (.seq (.block .leaf) [0, 3, 4] .leaf))))) [3] (.seq .leaf [2] .leaf)))) (Try.f80.body.getD .skip) = c80 := by kernel_rfl
theorem c80_ce {args : List Value} (ha : args.length ≤ 21) {h : H} {R : Ending → H → Prop} (hv : vc Try.prog c80 (retQ [2] R) (argEnv args 0) h) : CallsE Try.prog 80 args.toArray h R :=
  callsE_of (res := [2]) Try.func80 rfl rfl rfl c80_low ha hv
theorem c80_ok {args : List Value} (ha : args.length ≤ 21) {h : H} {R : Value → H → Prop} (hv : vc Try.prog c80 (retQ [2] (okR R)) (argEnv args 0) h) : Ok Try.prog 80 args.toArray h R :=
  ok_of (res := [2]) Try.func80 rfl rfl rfl c80_low ha hv

@[reducible] def c81_t0 : LC := (.ops [⟨(some 5), none, (.mv (.tmp 1))⟩, ⟨(some 6), none, (.raw ⟨(Option.some 6), (Op.typeAssert (Operand.tmp 5) 20 33 Bool.false), 33, "", #[], none⟩)⟩, ⟨none, none, (.st (.tmp 0) (.tmp 6))⟩])
@[reducible] def c81 : LC := (.seq (.ops [⟨(some 3), none, (.mv (.tmp 1))⟩, ⟨(some 4), none, (.raw ⟨(Option.some 4), (Op.binOp BinOp.neq 20 (Operand.tmp 3) (Operand.const Value.nilIface) 20), 4, "", #[], none⟩)⟩]) [0, 1, 4] (.cond (.tmp 4) c81_t0 .skip))
theorem c81_low : lowR2 Try.prog 7 (.seq .leaf [0, 1, 4] (.cond .leaf .leaf)) (Try.f81.body.getD .skip) = some (2, 1, c81) := by kernel_rfl
theorem c81_ok {args : List Value} (ha : args.length ≤ 7) {h : H} {u : FrameMode} {R : Ending → FrameMode → H → Prop} (hv : vc Try.prog c81 (recQ R (recM u).1) ((1, (recM u).2) :: (2, (recM u).2) :: argEnv args 0) h) : DCall Try.prog 81 args.toArray u h R :=
  dcall_of2 Try.func81 rfl rfl rfl c81_low ha hv

@[reducible] def c82_t0 : LC := (.seq (.ops [⟨(some 2), none, (.mv (.const (.int .i64 1)))⟩]) [2] .ret)
@[reducible] def c82_d0 : DT := .q 0 ⟨(some 7), none, (.mv (.tmp 0))⟩ (.q 1 ⟨(some 8), none, (.nilck (.tmp 7))⟩ (.q 2 ⟨(some 9), none, (.lea 1 (.tmp 8))⟩ (.q 3 ⟨(some 10), none, (.ld (.tmp 9))⟩ (.q 4 ⟨(some 11), none, (.mv (.tmp 0))⟩ (.q 5 ⟨(some 12), none, (.nilck (.tmp 11))⟩ (.q 6 ⟨(some 13), none, (.lea 0 (.tmp 12))⟩ (.q 7 ⟨(some 14), none, (.ld (.tmp 13))⟩ (.q 8 ⟨(some 15), none, (.lenl (.tmp 14))⟩ (.q 9 ⟨(some 16), none, (.bin .lss .other (.tmp 10) (.tmp 15))⟩ (.q 10 ⟨(some 6), none, (.mv (.tmp 16))⟩ (.done)))))))))))
@[reducible] def c82_t2 : LC := (.seq (.ops [⟨(some 2), none, (.mv (.const (.int .i64 112)))⟩]) [2] .ret)
@[reducible] def c82_t1 : LC := (.seq (.draw c82_d0) [6] (.cond (.tmp 6) c82_t2 .skip))
@[reducible] def c82_s1 : LC := (.seq (.ops [⟨(some 2), none, (.mv (.const (.int .i64 0)))⟩]) [2] .ret)
@[reducible] def c82_s0 : LC := (.seq (.block 0 (.seq (.ops [⟨(some 4), none, (.mv (.tmp 0))⟩, ⟨(some 5), none, (.call 87 [(.tmp 4)])⟩, ⟨(some 3), none, (.mv (.tmp 5))⟩]) [0, 3] (.cond (.tmp 3) c82_t0 c82_t1))) [] c82_s1)
@[reducible] def c82 : LC := (.seq (.ops [⟨(some 2), none, (.mv (.const (.int .i64 0)))⟩]) [0] c82_s0)
theorem c82_low : lowC Try.prog ⟨0, 17⟩ (.seq .leaf [0] (.seq (.block (.seq .leaf [0, 3] (.cond (.seq .leaf [2] .leaf) (.seq (.draw [[], [0], [1], [2], [], [4], [5], [6], [7], [3, 8], [9]] (.q 0 (.q 1 (.q 2 (.q 3 (.q 4 (.q 5 (.q 6 (.q 7 (.q 8 (.q 9 (.q 10 (.done))))))))))))) [6] (.cond (.seq .leaf [2] .leaf) .leaf))))) [] (.seq .leaf [2] .leaf))) (Try.f82.body.getD .skip) = c82 := by kernel_rfl
theorem c82_ce {args : List Value} (ha : args.length ≤ 17) {h : H} {R : Ending → H → Prop} (hv : vc Try.prog c82 (retQ [2] R) (argEnv args 0) h) : CallsE Try.prog 82 args.toArray h R :=
  callsE_of (res := [2]) Try.func82 rfl rfl rfl c82_low ha hv
theorem c82_ok {args : List Value} (ha : args.length ≤ 17) {h : H} {R : Value → H → Prop} (hv : vc Try.prog c82 (retQ [2] (okR R)) (argEnv args 0) h) : Ok Try.prog 82 args.toArray h R :=
  ok_of (res := [2]) Try.func82 rfl rfl rfl c82_low ha hv

@[reducible] def c83_t0 : LC := (.ops [⟨(some 7), none, (.iface 33 (.const (.int .i64 301)))⟩, ⟨none, none, (.pnc (.tmp 7))⟩])
@[reducible] def c83_s1 : LC := (.seq (.ops [⟨(some 8), none, (.mv (.tmp 0))⟩, ⟨(some 4), none, (.mv (.tmp 8))⟩]) [4] .ret)
@[reducible] def c83_s0 : LC := (.seq (.seq (.ops [⟨(some 5), none, (.mv (.tmp 1))⟩, ⟨(some 6), none, (.bin .neq .other (.tmp 5) (.const (.int .i64 0)))⟩]) [0, 6] (.cond (.tmp 6) c83_t0 .skip)) [0] c83_s1)
@[reducible] def c83 : LC := (.seq (.ops [⟨(some 4), none, (.mv (.const (.slice none 0 0)))⟩]) [0, 1] c83_s0)
theorem c83_low : lowC Try.prog ⟨0, 9⟩ (.seq .leaf [0, 1] (.seq (.seq .leaf [0, 6] (.cond .leaf .leaf)) [0] (.seq .leaf [4] .leaf))) (Try.f83.body.getD .skip) = c83 := by kernel_rfl
theorem c83_ce {args : List Value} (ha : args.length ≤ 9) {h : H} {R : Ending → H → Prop} (hv : vc Try.prog c83 (retQ [4] R) (argEnv args 0) h) : CallsE Try.prog 83 args.toArray h R :=
  callsE_of (res := [4]) Try.func83 rfl rfl rfl c83_low ha hv
theorem c83_ok {args : List Value} (ha : args.length ≤ 9) {h : H} {R : Value → H → Prop} (hv : vc Try.prog c83 (retQ [4] (okR R)) (argEnv args 0) h) : Ok Try.prog 83 args.toArray h R :=
  ok_of (res := [4]) Try.func83 rfl rfl rfl c83_low ha hv

@[reducible] def c84_t0 : LC := (.seq (.ops [⟨(some 4), none, (.mv (.const (.slice none 0 0)))⟩, ⟨(some 5), none, (.mv (.const (.int .i64 1)))⟩]) [4, 5] .ret)
@[reducible] def c84_t2 : LC := (.seq (.ops [⟨(some 4), none, (.mv (.const (.slice none 0 0)))⟩, ⟨(some 5), none, (.mv (.const (.int .i64 2)))⟩]) [4, 5] .ret)
@[reducible] def c84_t1 : LC := (.seq (.ops [⟨(some 13), none, (.mv (.tmp 1))⟩, ⟨(some 14), none, (.bin .lss .other (.tmp 13) (.const (.int .i64 0)))⟩, ⟨(some 12), none, (.mv (.tmp 14))⟩]) [0, 1, 12] (.cond (.tmp 12) c84_t2 .skip))
@[reducible] def c84_t3 : LC := (.seq (.ops [⟨(some 27), none, (.mv (.tmp 8))⟩, ⟨(some 4), none, (.mv (.const (.slice none 0 0)))⟩, ⟨(some 5), none, (.mv (.tmp 27))⟩]) [4, 5] .ret)
@[reducible] def c84_t5 : LC := (.ops [⟨(some 8), none, (.mv (.const (.int .i64 110)))⟩])
@[reducible] def c84_d0 : DT := .q 0 ⟨(some 34), none, (.mv (.tmp 7))⟩ (.q 1 ⟨(some 35), none, (.mv (.tmp 0))⟩ (.q 2 ⟨(some 36), none, (.nilck (.tmp 35))⟩ (.q 3 ⟨(some 37), none, (.lea 0 (.tmp 36))⟩ (.q 4 ⟨(some 38), none, (.ld (.tmp 37))⟩ (.q 5 ⟨(some 39), none, (.lenl (.tmp 38))⟩ (.q 6 ⟨(some 40), none, (.mv (.tmp 0))⟩ (.q 7 ⟨(some 41), none, (.nilck (.tmp 40))⟩ (.q 8 ⟨(some 42), none, (.lea 1 (.tmp 41))⟩ (.q 9 ⟨(some 43), none, (.ld (.tmp 42))⟩ (.q 10 ⟨(some 44), none, (.bin .sub .other (.tmp 39) (.tmp 43))⟩ (.q 11 ⟨(some 45), none, (.cvi .u64 (.tmp 44))⟩ (.q 12 ⟨(some 46), none, (.bin .gtr .other (.tmp 34) (.tmp 45))⟩ (.q 13 ⟨(some 33), none, (.mv (.tmp 46))⟩ (.done))))))))))))))
@[reducible] def c84_t7 : LC := (.ops [⟨(some 8), none, (.mv (.const (.int .i64 111)))⟩])
@[reducible] def c84_t6 : LC := (.seq (.draw c84_d0) [0, 6, 7, 8, 33] (.cond (.tmp 33) c84_t7 .skip))
@[reducible] def c84_t4 : LC := (.seq (.ops [⟨(some 29), none, (.mv (.tmp 7))⟩, ⟨(some 30), none, (.mv (.tmp 1))⟩, ⟨(some 31), none, (.cvi .u64 (.tmp 30))⟩, ⟨(some 32), none, (.bin .gtr .other (.tmp 29) (.tmp 31))⟩, ⟨(some 28), none, (.mv (.tmp 32))⟩]) [0, 6, 7, 8, 28] (.cond (.tmp 28) c84_t5 c84_t6))
@[reducible] def c84_s5 : LC := (.seq (.ops [⟨(some 53), none, (.mv (.tmp 8))⟩, ⟨(some 4), none, (.mv (.const (.slice none 0 0)))⟩, ⟨(some 5), none, (.mv (.tmp 53))⟩]) [4, 5] .ret)
@[reducible] def c84_t8 : LC := (.seq (.ops [⟨(some 49), none, (.mv (.tmp 0))⟩, ⟨(some 50), none, (.mv (.tmp 6))⟩, ⟨(some 51), none, (.nilck (.tmp 49))⟩, ⟨(some 52), none, (.lea 1 (.tmp 51))⟩, ⟨none, none, (.st (.tmp 52) (.tmp 50))⟩]) [8] c84_s5)
@[reducible] def c84_d1 : DT := .q 0 ⟨(some 63), none, (.mv (.tmp 0))⟩ (.q 1 ⟨(some 64), none, (.nilck (.tmp 63))⟩ (.q 2 ⟨(some 65), none, (.lea 0 (.tmp 64))⟩ (.q 3 ⟨(some 66), none, (.ld (.tmp 65))⟩ (.q 4 ⟨(some 67), none, (.mv (.tmp 0))⟩ (.q 5 ⟨(some 68), none, (.nilck (.tmp 67))⟩ (.q 6 ⟨(some 69), none, (.lea 1 (.tmp 68))⟩ (.q 7 ⟨(some 70), none, (.ld (.tmp 69))⟩ (.q 8 ⟨(some 71), none, (.mv (.tmp 7))⟩ (.q 9 ⟨(some 72), none, (.cvi .i64 (.tmp 71))⟩ (.q 10 ⟨(some 73), none, (.bin .sub .other (.tmp 70) (.tmp 72))⟩ (.q 11 ⟨(some 74), none, (.mv (.tmp 0))⟩ (.q 12 ⟨(some 75), none, (.nilck (.tmp 74))⟩ (.q 13 ⟨(some 76), none, (.lea 1 (.tmp 75))⟩ (.q 14 ⟨(some 77), none, (.ld (.tmp 76))⟩ (.q 15 ⟨(some 78), none, (.mv (.tmp 0))⟩ (.q 16 ⟨(some 79), none, (.nilck (.tmp 78))⟩ (.q 17 ⟨(some 80), none, (.lea 1 (.tmp 79))⟩ (.q 18 ⟨(some 81), none, (.ld (.tmp 80))⟩ (.q 19 ⟨(some 82), none, (.slc 1 (.tmp 66) (some (.tmp 73)) (some (.tmp 77)) (some (.tmp 81)))⟩ (.e 20 [] ⟨(some 83), none, (.call 51 [(.tmp 82)])⟩ (.q 21 ⟨(some 4), none, (.mv (.tmp 83))⟩ (.q 22 ⟨(some 5), none, (.mv (.const (.int .i64 0)))⟩ (.done)))))))))))))))))))))))
@[reducible] def c84_s7 : LC := (.seq (.draw c84_d1) [4, 5] .ret)
@[reducible] def c84_s6 : LC := (.seq (.ops [⟨(some 54), none, (.mv (.tmp 0))⟩, ⟨(some 55), none, (.nilck (.tmp 54))⟩, ⟨(some 56), none, (.lea 1 (.tmp 55))⟩, ⟨(some 57), none, (.ld (.tmp 56))⟩, ⟨(some 58), none, (.mv (.tmp 7))⟩, ⟨(some 59), none, (.cvi .i64 (.tmp 58))⟩, ⟨(some 60), none, (.bin .add .other (.tmp 57) (.tmp 59))⟩, ⟨(some 61), none, (.nilck (.tmp 54))⟩, ⟨(some 62), none, (.lea 1 (.tmp 61))⟩, ⟨none, none, (.st (.tmp 62) (.tmp 60))⟩]) [0, 7] c84_s7)
@[reducible] def c84_s4 : LC := (.seq (.seq (.ops [⟨(some 47), none, (.mv (.tmp 8))⟩, ⟨(some 48), none, (.bin .neq .other (.tmp 47) (.const (.int .i64 0)))⟩]) [0, 6, 7, 8, 48] (.cond (.tmp 48) c84_t8 .skip)) [0, 7] c84_s6)
@[reducible] def c84_s3 : LC := (.seq (.block 1 (.seq (.ops [⟨(some 25), none, (.mv (.tmp 8))⟩, ⟨(some 26), none, (.bin .neq .other (.tmp 25) (.const (.int .i64 0)))⟩, ⟨(some 24), none, (.mv (.tmp 26))⟩]) [0, 1, 6, 7, 8, 24] (.cond (.tmp 24) c84_t3 c84_t4))) [0, 6, 7, 8] c84_s4)
@[reducible] def c84_s2 : LC := (.seq (.ops [⟨(some 20), none, (.mv (.tmp 0))⟩, ⟨(some 21), none, (.call 78 [(.tmp 20), (.const (.int .i64 4))])⟩, ⟨(some 19), none, (.mv (.tmp 21))⟩, ⟨(some 22), none, (.ext (.tmp 19) 0)⟩, ⟨(some 23), none, (.ext (.tmp 19) 1)⟩, ⟨(some 7), none, (.mv (.tmp 22))⟩, ⟨(some 8), none, (.mv (.tmp 23))⟩]) [0, 1, 6, 7, 8] c84_s3)
@[reducible] def c84_s1 : LC := (.seq (.ops [⟨(some 15), none, (.mv (.tmp 0))⟩, ⟨(some 16), none, (.nilck (.tmp 15))⟩, ⟨(some 17), none, (.lea 1 (.tmp 16))⟩, ⟨(some 18), none, (.ld (.tmp 17))⟩, ⟨(some 6), none, (.mv (.tmp 18))⟩]) [0, 1, 6] c84_s2)
@[reducible] def c84_s0 : LC := (.seq (.block 0 (.seq (.ops [⟨(some 10), none, (.mv (.tmp 0))⟩, ⟨(some 11), none, (.call 87 [(.tmp 10)])⟩, ⟨(some 9), none, (.mv (.tmp 11))⟩]) [0, 1, 9] (.cond (.tmp 9) c84_t0 c84_t1))) [0, 1] c84_s1)
@[reducible] def c84 : LC := (.seq (.ops [⟨(some 4), none, (.mv (.const (.slice none 0 0)))⟩, ⟨(some 5), none, (.mv (.const (.int .i64 0)))⟩]) [0, 1] c84_s0)
theorem c84_low : lowC Try.prog ⟨0, 84⟩ (.seq .leaf [0, 1] (.seq (.block (.seq .leaf [0, 1, 9] (.cond (.seq .leaf [4, 5] .leaf) (.seq .leaf [0, 1, 12] (.cond (.seq .leaf [4, 5] .leaf) .leaf))))) [0, 1] (.seq .leaf [0, 1, 6] (.seq .leaf [0, 1, 6, 7, 8] (.seq (.block (.seq .leaf [0, 1, 6, 7, 8, 24] (.cond (.seq .leaf [4, 5] .leaf) (.seq .leaf [0, 6, 7, 8, 28] (.cond .leaf (.seq (.draw [[], [], [1], [2], [3], [4], [], [6], [7], [8], [5, 9], [10], [0, 11], [12]] (.q 0 (.q 1 (.q 2 (.q 3 (.q 4 (.q 5 (.q 6 (.q 7 (.q 8 (.q 9 (.q 10 (.q 11 (.q 12 (.q 13 (.done)))))))))))))))) [0, 6, 7, 8, 33] (.cond .leaf .leaf))))))) [0, 6, 7, 8] (.seq (.seq .leaf [0, 6, 7, 8, 48] (.cond (.seq .leaf [8] (.seq .leaf [4, 5] .leaf)) .leaf)) [0, 7] (.seq .leaf [0, 7] (.seq (.draw [[], [0], [0, 1], [0, 1, 2], [], [4], [4, 5], [4, 5, 6], [], [8], [4, 5, 6, 7, 8, 9], [], [11], [11, 12], [11, 12, 13], [], [15], [15, 16], [15, 16, 17], [0, 1, 2, 3, 4, 5, 6, 7, 8, 9, 10, 11, 12, 13, 14, 15, 16, 17, 18], [0, 1, 2, 3, 4, 5, 6, 7, 8, 9, 10, 11, 12, 13, 14, 15, 16, 17, 18, 19], [20], [20]] (.q 0 (.q 1 (.q 2 (.q 3 (.q 4 (.q 5 (.q 6 (.q 7 (.q 8 (.q 9 (.q 10 (.q 11 (.q 12 (.q 13 (.q 14 (.q 15 (.q 16 (.q 17 (.q 18 (.q 19 (.e 20 [] (.q 21 (.q 22 (.done))))))))))))))))))))))))) [4, 5] .leaf)))))))) (Try.f84.body.getD .skip) = c84 := by kernel_rfl
theorem c84_ce {args : List Value} (ha : args.length ≤ 84) {h : H} {R : Ending → H → Prop} (hv : vc Try.prog c84 (retQ [4, 5] R) (argEnv args 0) h) : CallsE Try.prog 84 args.toArray h R :=
  callsE_of (res := [4, 5]) Try.func84 rfl rfl rfl c84_low ha hv
theorem c84_ok {args : List Value} (ha : args.length ≤ 84) {h : H} {R : Value → H → Prop} (hv : vc Try.prog c84 (retQ [4, 5] (okR R)) (argEnv args 0) h) : Ok Try.prog 84 args.toArray h R :=
  ok_of (res := [4, 5]) Try.func84 rfl rfl rfl c84_low ha hv

@[reducible] def c85_s0 : LC := (.seq (.ops [⟨(some 5), none, (.mv (.tmp 0))⟩, ⟨(some 6), none, (.cvbs (.tmp 5))⟩, ⟨(some 7), none, (.mv (.tmp 1))⟩, ⟨(some 8), none, (.cvbs (.tmp 7))⟩, ⟨(some 9), none, (.bin .eql .other (.tmp 6) (.tmp 8))⟩, ⟨(some 4), none, (.mv (.tmp 9))⟩]) [4] .ret)
@[reducible] def c85 : LC := (.seq (.ops [⟨(some 4), none, (.mv (.const (.bool false)))⟩]) [0, 1] c85_s0)
theorem c85_low : lowC Try.prog ⟨0, 10⟩ (.seq .leaf [0, 1] (.seq .leaf [4] .leaf)) (Try.f85.body.getD .skip) = c85 := by kernel_rfl
theorem c85_ce {args : List Value} (ha : args.length ≤ 10) {h : H} {R : Ending → H → Prop} (hv : vc Try.prog c85 (retQ [4] R) (argEnv args 0) h) : CallsE Try.prog 85 args.toArray h R :=
  callsE_of (res := [4]) Try.func85 rfl rfl rfl c85_low ha hv
theorem c85_ok {args : List Value} (ha : args.length ≤ 10) {h : H} {R : Value → H → Prop} (hv : vc Try.prog c85 (retQ [4] (okR R)) (argEnv args 0) h) : Ok Try.prog 85 args.toArray h R :=
  ok_of (res := [4]) Try.func85 rfl rfl rfl c85_low ha hv

@[reducible] def c86_s4 : LC := (.ops [⟨(some 13), none, (.mv (.tmp 6))⟩, ⟨(some 14), none, (.bin .add .other (.tmp 13) (.const (.int .i64 1)))⟩, ⟨(some 6), none, (.mv (.tmp 14))⟩])
@[reducible] def c86_s3 : LC := (.seq (.block 1 (.ops [⟨(some 15), none, (.mv (.tmp 5))⟩, ⟨(some 16), none, (.mv (.tmp 1))⟩, ⟨(some 17), none, (.mv (.tmp 6))⟩, ⟨(some 18), none, (.idx 1 (.tmp 16) (.tmp 17))⟩, ⟨(some 19), none, (.ld (.tmp 18))⟩, ⟨(some 20), none, (.cvi .u32 (.tmp 19))⟩, ⟨(some 21), none, (.bin .xor .other (.tmp 15) (.tmp 20))⟩, ⟨(some 22), none, (.call 90 [(.tmp 21)])⟩, ⟨(some 5), none, (.mv (.tmp 22))⟩])) [1, 5, 6] c86_s4)
@[reducible] def c86_b0 : LC := (.seq (.seq (.ops [⟨(some 9), none, (.mv (.tmp 6))⟩, ⟨(some 10), none, (.mv (.tmp 1))⟩, ⟨(some 11), none, (.lenl (.tmp 10))⟩, ⟨(some 12), none, (.bin .lss .other (.tmp 9) (.tmp 11))⟩]) [1, 5, 6, 12] (.cond (.tmp 12) .skip (.exit 0))) [1, 5, 6] c86_s3)
@[reducible] def c86_l0 : LC := .loop [5, 6] [1] c86_b0
@[reducible] def c86_s2 : LC := (.block 0 c86_l0)
@[reducible] def c86_s5 : LC := (.seq (.ops [⟨(some 23), none, (.mv (.tmp 5))⟩, ⟨(some 24), none, (.call 89 [(.tmp 23)])⟩, ⟨(some 4), none, (.mv (.tmp 24))⟩]) [4] .ret)
@[reducible] def c86_s1 : LC := (.seq (.seq (.ops [⟨(some 6), none, (.mv (.const (.int .i64 0)))⟩]) [1, 5, 6] c86_s2) [5] c86_s5)
@[reducible] def c86_s0 : LC := (.seq (.ops [⟨(some 7), none, (.mv (.tmp 0))⟩, ⟨(some 8), none, (.call 89 [(.tmp 7)])⟩, ⟨(some 5), none, (.mv (.tmp 8))⟩]) [1, 5] c86_s1)
@[reducible] def c86 : LC := (.seq (.ops [⟨(some 4), none, (.mv (.const (.int .u32 0)))⟩]) [0, 1] c86_s0)
theorem c86_low : lowC Try.prog ⟨0, 25⟩ (.seq .leaf [0, 1] (.seq .leaf [1, 5] (.seq (.seq .leaf [1, 5, 6] (.block (.loop [5, 6] [1] (.seq (.seq .leaf [1, 5, 6, 12] (.cond .leaf .leaf)) [1, 5, 6] (.seq (.block .leaf) [1, 5, 6] .leaf))))) [5] (.seq .leaf [4] .leaf)))) (Try.f86.body.getD .skip) = c86 := by kernel_rfl
theorem c86_ce {args : List Value} (ha : args.length ≤ 25) {h : H} {R : Ending → H → Prop} (hv : vc Try.prog c86 (retQ [4] R) (argEnv args 0) h) : CallsE Try.prog 86 args.toArray h R :=
  callsE_of (res := [4]) Try.func86 rfl rfl rfl c86_low ha hv
theorem c86_ok {args : List Value} (ha : args.length ≤ 25) {h : H} {R : Value → H → Prop} (hv : vc Try.prog c86 (retQ [4] (okR R)) (argEnv args 0) h) : Ok Try.prog 86 args.toArray h R :=
  ok_of (res := [4]) Try.func86 rfl rfl rfl c86_low ha hv

@[reducible] def c87_s0 : LC := (.seq (.ops [⟨(some 3), none, (.mv (.tmp 0))⟩, ⟨(some 4), none, (.bin .eql .ptr (.tmp 3) (.const (.pointer none)))⟩, ⟨(some 5), none, (.mv (.tmp 4))⟩, ⟨(some 6), (some (5, false)), (.mv (.tmp 0))⟩, ⟨(some 7), (some (5, false)), (.nilck (.tmp 6))⟩, ⟨(some 8), (some (5, false)), (.lea 2 (.tmp 7))⟩, ⟨(some 9), (some (5, false)), (.ld (.tmp 8))⟩, ⟨(some 10), (some (5, false)), (.un .not (.tmp 9))⟩, ⟨(some 11), none, (.pick (.tmp 5) (.const (.bool true)) (.tmp 10))⟩, ⟨(some 2), none, (.mv (.tmp 11))⟩]) [2] .ret)
@[reducible] def c87 : LC := (.seq (.ops [⟨(some 2), none, (.mv (.const (.bool false)))⟩]) [0] c87_s0)
theorem c87_low : lowC Try.prog ⟨0, 12⟩ (.seq .leaf [0] (.seq .leaf [2] .leaf)) (Try.f87.body.getD .skip) = c87 := by kernel_rfl
theorem c87_ce {args : List Value} (ha : args.length ≤ 12) {h : H} {R : Ending → H → Prop} (hv : vc Try.prog c87 (retQ [2] R) (argEnv args 0) h) : CallsE Try.prog 87 args.toArray h R :=
  callsE_of (res := [2]) Try.func87 rfl rfl rfl c87_low ha hv
theorem c87_ok {args : List Value} (ha : args.length ≤ 12) {h : H} {R : Value → H → Prop} (hv : vc Try.prog c87 (retQ [2] (okR R)) (argEnv args 0) h) : Ok Try.prog 87 args.toArray h R :=
  ok_of (res := [2]) Try.func87 rfl rfl rfl c87_low ha hv

@[reducible] def c88_s10 : LC := (.ops [⟨(some 18), none, (.bin .add .other (.tmp 9) (.const (.int .i64 1)))⟩, ⟨(some 9), none, (.mv (.tmp 18))⟩])
@[reducible] def c88_s9 : LC := (.seq (.block 3 (.ops [⟨(some 11), none, (.mv (.tmp 3))⟩, ⟨(some 12), none, (.bin .shr .other (.tmp 11) (.const (.int .u64 1)))⟩, ⟨(some 13), none, (.mv (.tmp 3))⟩, ⟨(some 14), none, (.bin .and .other (.tmp 13) (.const (.int .u32 1)))⟩, ⟨(some 15), none, (.un .neg (.tmp 14))⟩, ⟨(some 16), none, (.bin .and .other (.const (.int .u32 2197175160)) (.tmp 15))⟩, ⟨(some 17), none, (.bin .xor .other (.tmp 12) (.tmp 16))⟩, ⟨(some 3), none, (.mv (.tmp 17))⟩])) [0, 1, 2, 3, 4, 9] c88_s10)
@[reducible] def c88_s8 : LC := (.seq (.cond (.tmp 10) .skip (.exit 2)) [0, 1, 2, 3, 4, 9] c88_s9)
@[reducible] def c88_b1 : LC := (.seq (.ops [⟨(some 10), none, (.bin .lss .other (.tmp 9) (.const (.int .i64 4)))⟩]) [0, 1, 2, 3, 4, 9, 10] c88_s8)
@[reducible] def c88_l1 : LC := .loop [3, 9] [0, 1, 2, 4] c88_b1
@[reducible] def c88_s7 : LC := (.block 2 c88_l1)
@[reducible] def c88_s11 : LC := (.ops [⟨(some 19), none, (.mv (.tmp 2))⟩, ⟨(some 20), none, (.mv (.tmp 3))⟩, ⟨(some 21), none, (.idxp 16 1 (.tmp 1) (.tmp 19))⟩, ⟨none, none, (.st (.tmp 21) (.tmp 20))⟩])
@[reducible] def c88_s6 : LC := (.seq (.seq (.ops [⟨(some 9), none, (.mv (.const (.int .i64 0)))⟩]) [0, 1, 2, 3, 4, 9] c88_s7) [0, 1, 2, 3, 4] c88_s11)
@[reducible] def c88_s5 : LC := (.seq (.ops [⟨(some 7), none, (.mv (.tmp 2))⟩, ⟨(some 8), none, (.cvi .u32 (.tmp 7))⟩, ⟨(some 3), none, (.mv (.tmp 8))⟩]) [0, 1, 2, 3, 4] c88_s6)
@[reducible] def c88_s12 : LC := (.ops [⟨(some 22), none, (.bin .add .other (.tmp 4) (.const (.int .i64 1)))⟩, ⟨(some 4), none, (.mv (.tmp 22))⟩])
@[reducible] def c88_s4 : LC := (.seq (.block 1 (.seq (.ops [⟨(some 6), none, (.mv (.tmp 4))⟩, ⟨(some 2), none, (.mv (.tmp 6))⟩]) [0, 1, 2, 4] c88_s5)) [0, 1, 4] c88_s12)
@[reducible] def c88_s3 : LC := (.seq (.cond (.tmp 5) .skip (.exit 0)) [0, 1, 4] c88_s4)
@[reducible] def c88_b0 : LC := (.seq (.ops [⟨(some 5), none, (.bin .lss .other (.tmp 4) (.const (.int .i64 16)))⟩]) [0, 1, 4, 5] c88_s3)
@[reducible] def c88_l0 : LC := .loop [4] [0, 1] c88_b0
@[reducible] def c88_s2 : LC := (.block 0 c88_l0)
@[reducible] def c88_s13 : LC := (.seq (.ops [⟨(some 23), none, (.ldn 16 (.tmp 1))⟩, ⟨none, none, (.stn 16 (.tmp 0) (.tmp 23))⟩]) [0] .ret)
@[reducible] def c88_s1 : LC := (.seq (.seq (.ops [⟨(some 4), none, (.mv (.const (.int .i64 0)))⟩]) [0, 1, 4] c88_s2) [0, 1] c88_s13)
@[reducible] def c88_s0 : LC := (.seq (.ops [⟨(some 1), none, (.new 143 #[(.int .u32 0), (.int .u32 0), (.int .u32 0), (.int .u32 0), (.int .u32 0), (.int .u32 0), (.int .u32 0), (.int .u32 0), (.int .u32 0), (.int .u32 0), (.int .u32 0), (.int .u32 0), (.int .u32 0), (.int .u32 0), (.int .u32 0), (.int .u32 0)])⟩]) [0, 1] c88_s1)
@[reducible] def c88 : LC := (.seq (.ops [⟨(some 0), none, (.new 143 #[(.int .u32 0), (.int .u32 0), (.int .u32 0), (.int .u32 0), (.int .u32 0), (.int .u32 0), (.int .u32 0), (.int .u32 0), (.int .u32 0), (.int .u32 0), (.int .u32 0), (.int .u32 0), (.int .u32 0), (.int .u32 0), (.int .u32 0), (.int .u32 0)])⟩]) [0] c88_s0)
theorem c88_low : lowC Try.prog ⟨0, 24⟩ (.seq .leaf [0] (.seq .leaf [0, 1] (.seq (.seq .leaf [0, 1, 4] (.block (.loop [4] [0, 1] (.seq .leaf [0, 1, 4, 5] (.seq (.cond .leaf .leaf) [0, 1, 4] (.seq (.block (.seq .leaf [0, 1, 2, 4] (.seq .leaf [0, 1, 2, 3, 4] (.seq (.seq .leaf [0, 1, 2, 3, 4, 9] (.block (.loop [3, 9] [0, 1, 2, 4] (.seq .leaf [0, 1, 2, 3, 4, 9, 10] (.seq (.cond .leaf .leaf) [0, 1, 2, 3, 4, 9] (.seq (.block .leaf) [0, 1, 2, 3, 4, 9] .leaf)))))) [0, 1, 2, 3, 4] .leaf)))) [0, 1, 4] .leaf)))))) [0, 1] (.seq .leaf [0] .leaf)))) (Try.f88.body.getD .skip) = c88 := by kernel_rfl
theorem c88_ok {args : List Value} (ha : args.length ≤ 24) {h : H} {R : Value → H → Prop} (hv : vc Try.prog c88 (retC [.cn 0 16 143] (okR R)) (argEnv args 0) h) : Ok Try.prog 88 args.toArray h R :=
  okC_of (res := [.cn 0 16 143]) Try.func88 rfl rfl rfl (by decide) c88_low ha hv

@[reducible] def c89_s0 : LC := (.seq (.ops [⟨(some 3), none, (.mv (.tmp 0))⟩, ⟨(some 4), none, (.bin .sub .other (.const (.int .u32 4294967295)) (.tmp 3))⟩, ⟨(some 2), none, (.mv (.tmp 4))⟩]) [2] .ret)
@[reducible] def c89 : LC := (.seq (.ops [⟨(some 2), none, (.mv (.const (.int .u32 0)))⟩]) [0] c89_s0)
theorem c89_low : lowC Try.prog ⟨0, 5⟩ (.seq .leaf [0] (.seq .leaf [2] .leaf)) (Try.f89.body.getD .skip) = c89 := by kernel_rfl
theorem c89_ce {args : List Value} (ha : args.length ≤ 5) {h : H} {R : Ending → H → Prop} (hv : vc Try.prog c89 (retQ [2] R) (argEnv args 0) h) : CallsE Try.prog 89 args.toArray h R :=
  callsE_of (res := [2]) Try.func89 rfl rfl rfl c89_low ha hv
theorem c89_ok {args : List Value} (ha : args.length ≤ 5) {h : H} {R : Value → H → Prop} (hv : vc Try.prog c89 (retQ [2] (okR R)) (argEnv args 0) h) : Ok Try.prog 89 args.toArray h R :=
  ok_of (res := [2]) Try.func89 rfl rfl rfl c89_low ha hv

@[reducible] def c90_s3 : LC := (.ops [⟨(some 6), none, (.mv (.tmp 3))⟩, ⟨(some 7), none, (.bin .add .other (.tmp 6) (.const (.int .i64 1)))⟩, ⟨(some 3), none, (.mv (.tmp 7))⟩])
@[reducible] def c90_s2 : LC := (.seq (.block 1 (.ops [⟨(some 8), none, (.mv (.tmp 0))⟩, ⟨(some 9), none, (.call 91 [(.tmp 8)])⟩, ⟨(some 0), none, (.mv (.tmp 9))⟩])) [0, 3] c90_s3)
@[reducible] def c90_b0 : LC := (.seq (.seq (.ops [⟨(some 4), none, (.mv (.tmp 3))⟩, ⟨(some 5), none, (.bin .lss .other (.tmp 4) (.const (.int .i64 8)))⟩]) [0, 3, 5] (.cond (.tmp 5) .skip (.exit 0))) [0, 3] c90_s2)
@[reducible] def c90_l0 : LC := .loop [0, 3] [] c90_b0
@[reducible] def c90_s1 : LC := (.block 0 c90_l0)
@[reducible] def c90_s4 : LC := (.seq (.ops [⟨(some 10), none, (.mv (.tmp 0))⟩, ⟨(some 2), none, (.mv (.tmp 10))⟩]) [2] .ret)
@[reducible] def c90_s0 : LC := (.seq (.seq (.ops [⟨(some 3), none, (.mv (.const (.int .i64 0)))⟩]) [0, 3] c90_s1) [0] c90_s4)
@[reducible] def c90 : LC := (.seq (.ops [⟨(some 2), none, (.mv (.const (.int .u32 0)))⟩]) [0] c90_s0)
theorem c90_low : lowC Try.prog ⟨0, 11⟩ (.seq .leaf [0] (.seq (.seq .leaf [0, 3] (.block (.loop [0, 3] [] (.seq (.seq .leaf [0, 3, 5] (.cond .leaf .leaf)) [0, 3] (.seq (.block .leaf) [0, 3] .leaf))))) [0] (.seq .leaf [2] .leaf))) (Try.f90.body.getD .skip) = c90 := by kernel_rfl
theorem c90_ce {args : List Value} (ha : args.length ≤ 11) {h : H} {R : Ending → H → Prop} (hv : vc Try.prog c90 (retQ [2] R) (argEnv args 0) h) : CallsE Try.prog 90 args.toArray h R :=
  callsE_of (res := [2]) Try.func90 rfl rfl rfl c90_low ha hv
theorem c90_ok {args : List Value} (ha : args.length ≤ 11) {h : H} {R : Value → H → Prop} (hv : vc Try.prog c90 (retQ [2] (okR R)) (argEnv args 0) h) : Ok Try.prog 90 args.toArray h R :=
  ok_of (res := [2]) Try.func90 rfl rfl rfl c90_low ha hv

@[reducible] def c91_t0 : LC := (.seq (.ops [⟨(some 6), none, (.mv (.tmp 0))⟩, ⟨(some 7), none, (.bin .quo .other (.tmp 6) (.const (.int .u32 2)))⟩, ⟨(some 8), none, (.bin .xor .other (.tmp 7) (.const (.int .u32 2197175160)))⟩, ⟨(some 2), none, (.mv (.tmp 8))⟩]) [2] .ret)
@[reducible] def c91_s1 : LC := (.seq (.ops [⟨(some 9), none, (.mv (.tmp 0))⟩, ⟨(some 10), none, (.bin .quo .other (.tmp 9) (.const (.int .u32 2)))⟩, ⟨(some 2), none, (.mv (.tmp 10))⟩]) [2] .ret)
@[reducible] def c91_s0 : LC := (.seq (.seq (.ops [⟨(some 3), none, (.mv (.tmp 0))⟩, ⟨(some 4), none, (.bin .rem .other (.tmp 3) (.const (.int .u32 2)))⟩, ⟨(some 5), none, (.bin .eql .other (.tmp 4) (.const (.int .u32 1)))⟩]) [0, 5] (.cond (.tmp 5) c91_t0 .skip)) [0] c91_s1)
@[reducible] def c91 : LC := (.seq (.ops [⟨(some 2), none, (.mv (.const (.int .u32 0)))⟩]) [0] c91_s0)
theorem c91_low : lowC Try.prog ⟨0, 11⟩ (.seq .leaf [0] (.seq (.seq .leaf [0, 5] (.cond (.seq .leaf [2] .leaf) .leaf)) [0] (.seq .leaf [2] .leaf))) (Try.f91.body.getD .skip) = c91 := by kernel_rfl
theorem c91_ce {args : List Value} (ha : args.length ≤ 11) {h : H} {R : Ending → H → Prop} (hv : vc Try.prog c91 (retQ [2] R) (argEnv args 0) h) : CallsE Try.prog 91 args.toArray h R :=
  callsE_of (res := [2]) Try.func91 rfl rfl rfl c91_low ha hv
theorem c91_ok {args : List Value} (ha : args.length ≤ 11) {h : H} {R : Value → H → Prop} (hv : vc Try.prog c91 (retQ [2] (okR R)) (argEnv args 0) h) : Ok Try.prog 91 args.toArray h R :=
  ok_of (res := [2]) Try.func91 rfl rfl rfl c91_low ha hv

end Go.Proofs.Ytfeaaliocdkonaa
