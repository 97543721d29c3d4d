/-
  The walked functions' bodies, region by region, each held against the program by the kernel. By this seat's own program.
-/
import Derived.Test.YtjcgaelibiiiiaaProg
import Derived.Test.YtjcgaelibiiiiaaAbsWp
import Derived.KernelRfl
set_option linter.unusedVariables false
namespace Go.Proofs.Ytjcgaelibiiiiaa
open Go.Abs
noncomputable def o3_0 : Array Oper := regOps Try.f3 0
noncomputable def l3_0 : List Rop := [⟨some 4, .assign (.const (.bool false)), none⟩]
theorem r3_0 : o3_0.toList.mapM (resolveG o3_0) = some l3_0 := by kernel_rfl
noncomputable def o3_1 : Array Oper := regOps Try.f3 1
noncomputable def l3_1 : List Rop := [⟨some 6, .move (.tmp 0), none⟩,
  ⟨some 7, .call ⟨.builtin .len, #[.tmp 6], #[22]⟩, none⟩,
  ⟨some 8, .binOp .gtr 3 (.tmp 7) (.const (.int .i64 100)) 3, none⟩,
  ⟨some 9, .move (.tmp 8), none⟩,
  ⟨some 10, .move (.tmp 1), some (9, false)⟩,
  ⟨some 11, .call ⟨.builtin .len, #[.tmp 10], #[22]⟩, some (9, false)⟩,
  ⟨some 12, .binOp .gtr 3 (.tmp 11) (.const (.int .i64 100)) 3, some (9, false)⟩,
  ⟨some 13, .pick (.tmp 9) (.const (.bool true)) (.tmp 12), none⟩]
theorem r3_1 : o3_1.toList.mapM (resolveG o3_1) = some l3_1 := by kernel_rfl
noncomputable def o3_2 : Array Oper := regOps Try.f3 2
noncomputable def l3_2 : List Rop := [⟨some 4, .assign (.const (.bool true)), none⟩]
theorem r3_2 : o3_2.toList.mapM (resolveG o3_2) = some l3_2 := by kernel_rfl
noncomputable def o3_3 : Array Oper := regOps Try.f3 3
noncomputable def l3_3 : List Rop := [⟨some 5, .assign (.const (.int .i64 0)), none⟩]
theorem r3_3 : o3_3.toList.mapM (resolveG o3_3) = some l3_3 := by kernel_rfl
noncomputable def o3_4 : Array Oper := regOps Try.f3 4
noncomputable def l3_4 : List Rop := [⟨some 14, .move (.tmp 5), none⟩,
  ⟨some 15, .move (.tmp 0), none⟩,
  ⟨some 16, .call ⟨.builtin .len, #[.tmp 15], #[22]⟩, none⟩,
  ⟨some 17, .binOp .lss 3 (.tmp 14) (.tmp 16) 3, none⟩]
theorem r3_4 : o3_4.toList.mapM (resolveG o3_4) = some l3_4 := by kernel_rfl
noncomputable def o3_6 : Array Oper := regOps Try.f3 6
noncomputable def l3_6 : List Rop := [⟨some 20, .move (.tmp 0), none⟩,
  ⟨some 21, .move (.tmp 5), none⟩,
  ⟨some 22, .indexAddr 22 (.tmp 20) (.tmp 21), none⟩,
  ⟨some 23, .fieldAddr 25 (.tmp 22) 4, none⟩,
  ⟨some 24, .load 23 (.tmp 23), none⟩,
  ⟨some 25, .call ⟨.builtin .len, #[.tmp 24], #[23]⟩, none⟩,
  ⟨some 26, .binOp .gtr 3 (.tmp 25) (.const (.int .i64 20)) 3, none⟩]
theorem r3_6 : o3_6.toList.mapM (resolveG o3_6) = some l3_6 := by kernel_rfl
noncomputable def o3_7 : Array Oper := regOps Try.f3 7
noncomputable def l3_7 : List Rop := [⟨some 4, .assign (.const (.bool true)), none⟩]
theorem r3_7 : o3_7.toList.mapM (resolveG o3_7) = some l3_7 := by kernel_rfl
noncomputable def o3_5 : Array Oper := regOps Try.f3 5
noncomputable def l3_5 : List Rop := [⟨some 18, .move (.tmp 5), none⟩,
  ⟨some 19, .binOp .add 3 (.tmp 18) (.const (.int .i64 1)) 3, none⟩,
  ⟨some 5, .assign (.tmp 19), none⟩]
theorem r3_5 : o3_5.toList.mapM (resolveG o3_5) = some l3_5 := by kernel_rfl
noncomputable def o3_8 : Array Oper := regOps Try.f3 8
noncomputable def l3_8 : List Rop := [⟨some 27, .move (.tmp 0), none⟩,
  ⟨some 28, .move (.tmp 1), none⟩,
  ⟨some 29, .call ⟨.value (.func 5), #[.tmp 27, .tmp 28], #[22, 22]⟩, none⟩,
  ⟨some 30, .move (.tmp 0), none⟩,
  ⟨some 31, .move (.tmp 1), none⟩,
  ⟨some 32, .call ⟨.value (.func 6), #[.tmp 30, .tmp 31], #[22, 22]⟩, none⟩,
  ⟨some 33, .binOp .eql 4 (.tmp 29) (.tmp 32) 4, none⟩,
  ⟨some 4, .assign (.tmp 33), none⟩]
theorem r3_8 : o3_8.toList.mapM (resolveG o3_8) = some l3_8 := by kernel_rfl
noncomputable def b3_L0 : Code := Code.seq (Code.seq (Code.region 4 o3_4 false) (Code.cond (Operand.tmp 17) Code.skip (Code.exit 0))) (Code.seq (Code.block 1 (Code.seq (Code.region 6 o3_6 false) (Code.cond (Operand.tmp 26) (Code.seq (Code.region 7 o3_7 false) Code.ret) Code.skip))) (Code.region 5 o3_5 false))
noncomputable def b3 : Code := (Code.seq (Code.region 0 o3_0 false) (Code.seq (Code.seq (Code.region 1 o3_1 false) (Code.cond (Operand.tmp 13) (Code.seq (Code.region 2 o3_2 false) Code.ret) Code.skip)) (Code.seq (Code.seq (Code.region 3 o3_3 false) (Code.block 0 (Code.loop b3_L0))) (Code.seq (Code.region 8 o3_8 false) Code.ret))))
theorem b3_eq : Try.f3.body = some b3 := by kernel_rfl
noncomputable def o5_0 : Array Oper := regOps Try.f5 0
noncomputable def l5_0 : List Rop := [⟨some 4, .assign (.const (.bool false)), none⟩]
theorem r5_0 : o5_0.toList.mapM (resolveG o5_0) = some l5_0 := by kernel_rfl
noncomputable def o5_1 : Array Oper := regOps Try.f5 1
noncomputable def l5_1 : List Rop := [⟨some 5, .move (.tmp 0), none⟩,
  ⟨some 6, .move (.tmp 1), none⟩,
  ⟨some 7, .call ⟨.value (.func 18), #[.tmp 5, .tmp 6, .func 19], #[22, 22, 41]⟩, none⟩,
  ⟨some 4, .assign (.tmp 7), none⟩]
theorem r5_1 : o5_1.toList.mapM (resolveG o5_1) = some l5_1 := by kernel_rfl
noncomputable def b5 : Code := (Code.seq (Code.region 0 o5_0 false) (Code.seq (Code.region 1 o5_1 false) Code.ret))
theorem b5_eq : Try.f5.body = some b5 := by kernel_rfl
noncomputable def o6_0 : Array Oper := regOps Try.f6 0
noncomputable def l6_0 : List Rop := [⟨some 4, .assign (.const (.bool false)), none⟩]
theorem r6_0 : o6_0.toList.mapM (resolveG o6_0) = some l6_0 := by kernel_rfl
noncomputable def o6_1 : Array Oper := regOps Try.f6 1
noncomputable def l6_1 : List Rop := [⟨some 6, .move (.tmp 0), none⟩,
  ⟨some 7, .call ⟨.builtin .len, #[.tmp 6], #[22]⟩, none⟩,
  ⟨some 8, .move (.tmp 1), none⟩,
  ⟨some 9, .call ⟨.builtin .len, #[.tmp 8], #[22]⟩, none⟩,
  ⟨some 10, .binOp .neq 3 (.tmp 7) (.tmp 9) 3, none⟩]
theorem r6_1 : o6_1.toList.mapM (resolveG o6_1) = some l6_1 := by kernel_rfl
noncomputable def o6_2 : Array Oper := regOps Try.f6 2
noncomputable def l6_2 : List Rop := [⟨some 4, .assign (.const (.bool false)), none⟩]
theorem r6_2 : o6_2.toList.mapM (resolveG o6_2) = some l6_2 := by kernel_rfl
noncomputable def o6_3 : Array Oper := regOps Try.f6 3
noncomputable def l6_3 : List Rop := [⟨some 5, .assign (.const (.int .i64 0)), none⟩]
theorem r6_3 : o6_3.toList.mapM (resolveG o6_3) = some l6_3 := by kernel_rfl
noncomputable def o6_4 : Array Oper := regOps Try.f6 4
noncomputable def l6_4 : List Rop := [⟨some 11, .move (.tmp 5), none⟩,
  ⟨some 12, .move (.tmp 0), none⟩,
  ⟨some 13, .call ⟨.builtin .len, #[.tmp 12], #[22]⟩, none⟩,
  ⟨some 14, .binOp .lss 3 (.tmp 11) (.tmp 13) 3, none⟩]
theorem r6_4 : o6_4.toList.mapM (resolveG o6_4) = some l6_4 := by kernel_rfl
noncomputable def o6_6 : Array Oper := regOps Try.f6 6
noncomputable def l6_6 : List Rop := [⟨some 17, .move (.tmp 0), none⟩,
  ⟨some 18, .move (.tmp 5), none⟩,
  ⟨some 19, .indexAddr 22 (.tmp 17) (.tmp 18), none⟩,
  ⟨some 20, .fieldAddr 25 (.tmp 19) 0, none⟩,
  ⟨some 21, .load 5 (.tmp 20), none⟩,
  ⟨some 22, .move (.tmp 1), none⟩,
  ⟨some 23, .move (.tmp 5), none⟩,
  ⟨some 24, .indexAddr 22 (.tmp 22) (.tmp 23), none⟩,
  ⟨some 25, .fieldAddr 25 (.tmp 24) 0, none⟩,
  ⟨some 26, .load 5 (.tmp 25), none⟩,
  ⟨some 27, .binOp .neq 5 (.tmp 21) (.tmp 26) 5, none⟩,
  ⟨some 28, .move (.tmp 27), none⟩,
  ⟨some 29, .move (.tmp 0), some (28, false)⟩,
  ⟨some 30, .move (.tmp 5), some (28, false)⟩,
  ⟨some 31, .indexAddr 22 (.tmp 29) (.tmp 30), some (28, false)⟩,
  ⟨some 32, .fieldAddr 25 (.tmp 31) 1, some (28, false)⟩,
  ⟨some 33, .load 3 (.tmp 32), some (28, false)⟩,
  ⟨some 34, .move (.tmp 1), some (28, false)⟩,
  ⟨some 35, .move (.tmp 5), some (28, false)⟩,
  ⟨some 36, .indexAddr 22 (.tmp 34) (.tmp 35), some (28, false)⟩,
  ⟨some 37, .fieldAddr 25 (.tmp 36) 1, some (28, false)⟩,
  ⟨some 38, .load 3 (.tmp 37), some (28, false)⟩,
  ⟨some 39, .binOp .neq 3 (.tmp 33) (.tmp 38) 3, some (28, false)⟩,
  ⟨some 40, .pick (.tmp 28) (.const (.bool true)) (.tmp 39), none⟩,
  ⟨some 41, .move (.tmp 40), none⟩,
  ⟨some 42, .move (.tmp 0), some (41, false)⟩,
  ⟨some 43, .move (.tmp 5), some (41, false)⟩,
  ⟨some 44, .indexAddr 22 (.tmp 42) (.tmp 43), some (41, false)⟩,
  ⟨some 45, .fieldAddr 25 (.tmp 44) 2, some (41, false)⟩,
  ⟨some 46, .load 3 (.tmp 45), some (41, false)⟩,
  ⟨some 47, .move (.tmp 1), some (41, false)⟩,
  ⟨some 48, .move (.tmp 5), some (41, false)⟩,
  ⟨some 49, .indexAddr 22 (.tmp 47) (.tmp 48), some (41, false)⟩,
  ⟨some 50, .fieldAddr 25 (.tmp 49) 2, some (41, false)⟩,
  ⟨some 51, .load 3 (.tmp 50), some (41, false)⟩,
  ⟨some 52, .binOp .neq 3 (.tmp 46) (.tmp 51) 3, some (41, false)⟩,
  ⟨some 53, .pick (.tmp 41) (.const (.bool true)) (.tmp 52), none⟩,
  ⟨some 54, .move (.tmp 53), none⟩,
  ⟨some 55, .move (.tmp 0), some (54, false)⟩,
  ⟨some 56, .move (.tmp 5), some (54, false)⟩,
  ⟨some 57, .indexAddr 22 (.tmp 55) (.tmp 56), some (54, false)⟩,
  ⟨some 58, .fieldAddr 25 (.tmp 57) 3, some (54, false)⟩,
  ⟨some 59, .load 3 (.tmp 58), some (54, false)⟩,
  ⟨some 60, .move (.tmp 1), some (54, false)⟩,
  ⟨some 61, .move (.tmp 5), some (54, false)⟩,
  ⟨some 62, .indexAddr 22 (.tmp 60) (.tmp 61), some (54, false)⟩,
  ⟨some 63, .fieldAddr 25 (.tmp 62) 3, some (54, false)⟩,
  ⟨some 64, .load 3 (.tmp 63), some (54, false)⟩,
  ⟨some 65, .binOp .neq 3 (.tmp 59) (.tmp 64) 3, some (54, false)⟩,
  ⟨some 66, .pick (.tmp 54) (.const (.bool true)) (.tmp 65), none⟩,
  ⟨some 67, .move (.tmp 66), none⟩,
  ⟨some 68, .move (.tmp 0), some (67, false)⟩,
  ⟨some 69, .move (.tmp 5), some (67, false)⟩,
  ⟨some 70, .indexAddr 22 (.tmp 68) (.tmp 69), some (67, false)⟩,
  ⟨some 71, .fieldAddr 25 (.tmp 70) 4, some (67, false)⟩,
  ⟨some 72, .load 23 (.tmp 71), some (67, false)⟩,
  ⟨some 73, .move (.tmp 1), some (67, false)⟩,
  ⟨some 74, .move (.tmp 5), some (67, false)⟩,
  ⟨some 75, .indexAddr 22 (.tmp 73) (.tmp 74), some (67, false)⟩,
  ⟨some 76, .fieldAddr 25 (.tmp 75) 4, some (67, false)⟩,
  ⟨some 77, .load 23 (.tmp 76), some (67, false)⟩,
  ⟨some 78, .call ⟨.value (.func 17), #[.tmp 72, .tmp 77], #[23, 23]⟩, some (67, false)⟩,
  ⟨some 79, .unOp .not 4 (.tmp 78), some (67, false)⟩,
  ⟨some 80, .pick (.tmp 67) (.const (.bool true)) (.tmp 79), none⟩]
theorem r6_6 : o6_6.toList.mapM (resolveG o6_6) = some l6_6 := by kernel_rfl
noncomputable def o6_7 : Array Oper := regOps Try.f6 7
noncomputable def l6_7 : List Rop := [⟨some 4, .assign (.const (.bool false)), none⟩]
theorem r6_7 : o6_7.toList.mapM (resolveG o6_7) = some l6_7 := by kernel_rfl
noncomputable def o6_5 : Array Oper := regOps Try.f6 5
noncomputable def l6_5 : List Rop := [⟨some 15, .move (.tmp 5), none⟩,
  ⟨some 16, .binOp .add 3 (.tmp 15) (.const (.int .i64 1)) 3, none⟩,
  ⟨some 5, .assign (.tmp 16), none⟩]
theorem r6_5 : o6_5.toList.mapM (resolveG o6_5) = some l6_5 := by kernel_rfl
noncomputable def o6_8 : Array Oper := regOps Try.f6 8
noncomputable def l6_8 : List Rop := [⟨some 4, .assign (.const (.bool true)), none⟩]
theorem r6_8 : o6_8.toList.mapM (resolveG o6_8) = some l6_8 := by kernel_rfl
noncomputable def b6_L0 : Code := Code.seq (Code.seq (Code.region 4 o6_4 false) (Code.cond (Operand.tmp 14) Code.skip (Code.exit 0))) (Code.seq (Code.block 1 (Code.seq (Code.region 6 o6_6 true) (Code.cond (Operand.tmp 80) (Code.seq (Code.region 7 o6_7 false) Code.ret) Code.skip))) (Code.region 5 o6_5 false))
noncomputable def b6 : Code := (Code.seq (Code.region 0 o6_0 false) (Code.seq (Code.seq (Code.region 1 o6_1 false) (Code.cond (Operand.tmp 10) (Code.seq (Code.region 2 o6_2 false) Code.ret) Code.skip)) (Code.seq (Code.seq (Code.region 3 o6_3 false) (Code.block 0 (Code.loop b6_L0))) (Code.seq (Code.region 8 o6_8 false) Code.ret))))
theorem b6_eq : Try.f6.body = some b6 := by kernel_rfl
noncomputable def o17_0 : Array Oper := regOps Try.f17 0
noncomputable def l17_0 : List Rop := [⟨some 4, .assign (.const (.bool false)), none⟩]
theorem r17_0 : o17_0.toList.mapM (resolveG o17_0) = some l17_0 := by kernel_rfl
noncomputable def o17_1 : Array Oper := regOps Try.f17 1
noncomputable def l17_1 : List Rop := [⟨some 6, .move (.tmp 0), none⟩,
  ⟨some 7, .call ⟨.builtin .len, #[.tmp 6], #[23]⟩, none⟩,
  ⟨some 8, .move (.tmp 1), none⟩,
  ⟨some 9, .call ⟨.builtin .len, #[.tmp 8], #[23]⟩, none⟩,
  ⟨some 10, .binOp .neq 3 (.tmp 7) (.tmp 9) 3, none⟩]
theorem r17_1 : o17_1.toList.mapM (resolveG o17_1) = some l17_1 := by kernel_rfl
noncomputable def o17_2 : Array Oper := regOps Try.f17 2
noncomputable def l17_2 : List Rop := [⟨some 4, .assign (.const (.bool false)), none⟩]
theorem r17_2 : o17_2.toList.mapM (resolveG o17_2) = some l17_2 := by kernel_rfl
noncomputable def o17_3 : Array Oper := regOps Try.f17 3
noncomputable def l17_3 : List Rop := [⟨some 5, .assign (.const (.int .i64 0)), none⟩]
theorem r17_3 : o17_3.toList.mapM (resolveG o17_3) = some l17_3 := by kernel_rfl
noncomputable def o17_4 : Array Oper := regOps Try.f17 4
noncomputable def l17_4 : List Rop := [⟨some 11, .move (.tmp 5), none⟩,
  ⟨some 12, .move (.tmp 0), none⟩,
  ⟨some 13, .call ⟨.builtin .len, #[.tmp 12], #[23]⟩, none⟩,
  ⟨some 14, .binOp .lss 3 (.tmp 11) (.tmp 13) 3, none⟩]
theorem r17_4 : o17_4.toList.mapM (resolveG o17_4) = some l17_4 := by kernel_rfl
noncomputable def o17_6 : Array Oper := regOps Try.f17 6
noncomputable def l17_6 : List Rop := [⟨some 17, .move (.tmp 0), none⟩,
  ⟨some 18, .move (.tmp 5), none⟩,
  ⟨some 19, .indexAddr 23 (.tmp 17) (.tmp 18), none⟩,
  ⟨some 20, .load 3 (.tmp 19), none⟩,
  ⟨some 21, .move (.tmp 1), none⟩,
  ⟨some 22, .move (.tmp 5), none⟩,
  ⟨some 23, .indexAddr 23 (.tmp 21) (.tmp 22), none⟩,
  ⟨some 24, .load 3 (.tmp 23), none⟩,
  ⟨some 25, .binOp .neq 3 (.tmp 20) (.tmp 24) 3, none⟩]
theorem r17_6 : o17_6.toList.mapM (resolveG o17_6) = some l17_6 := by kernel_rfl
noncomputable def o17_7 : Array Oper := regOps Try.f17 7
noncomputable def l17_7 : List Rop := [⟨some 4, .assign (.const (.bool false)), none⟩]
theorem r17_7 : o17_7.toList.mapM (resolveG o17_7) = some l17_7 := by kernel_rfl
noncomputable def o17_5 : Array Oper := regOps Try.f17 5
noncomputable def l17_5 : List Rop := [⟨some 15, .move (.tmp 5), none⟩,
  ⟨some 16, .binOp .add 3 (.tmp 15) (.const (.int .i64 1)) 3, none⟩,
  ⟨some 5, .assign (.tmp 16), none⟩]
theorem r17_5 : o17_5.toList.mapM (resolveG o17_5) = some l17_5 := by kernel_rfl
noncomputable def o17_8 : Array Oper := regOps Try.f17 8
noncomputable def l17_8 : List Rop := [⟨some 4, .assign (.const (.bool true)), none⟩]
theorem r17_8 : o17_8.toList.mapM (resolveG o17_8) = some l17_8 := by kernel_rfl
noncomputable def b17_L0 : Code := Code.seq (Code.seq (Code.region 4 o17_4 false) (Code.cond (Operand.tmp 14) Code.skip (Code.exit 0))) (Code.seq (Code.block 1 (Code.seq (Code.region 6 o17_6 true) (Code.cond (Operand.tmp 25) (Code.seq (Code.region 7 o17_7 false) Code.ret) Code.skip))) (Code.region 5 o17_5 false))
noncomputable def b17 : Code := (Code.seq (Code.region 0 o17_0 false) (Code.seq (Code.seq (Code.region 1 o17_1 false) (Code.cond (Operand.tmp 10) (Code.seq (Code.region 2 o17_2 false) Code.ret) Code.skip)) (Code.seq (Code.seq (Code.region 3 o17_3 false) (Code.block 0 (Code.loop b17_L0))) (Code.seq (Code.region 8 o17_8 false) Code.ret))))
theorem b17_eq : Try.f17.body = some b17 := by kernel_rfl
noncomputable def o18_0 : Array Oper := regOps Try.f18 0
noncomputable def l18_0 : List Rop := [⟨some 6, .assign (.const (.bool false)), none⟩]
theorem r18_0 : o18_0.toList.mapM (resolveG o18_0) = some l18_0 := by kernel_rfl
noncomputable def o18_1 : Array Oper := regOps Try.f18 1
noncomputable def l18_1 : List Rop := [⟨some 10, .move (.tmp 0), none⟩,
  ⟨some 11, .call ⟨.builtin .len, #[.tmp 10], #[22]⟩, none⟩,
  ⟨some 12, .move (.tmp 1), none⟩,
  ⟨some 13, .call ⟨.builtin .len, #[.tmp 12], #[22]⟩, none⟩,
  ⟨some 14, .binOp .neq 3 (.tmp 11) (.tmp 13) 3, none⟩]
theorem r18_1 : o18_1.toList.mapM (resolveG o18_1) = some l18_1 := by kernel_rfl
noncomputable def o18_2 : Array Oper := regOps Try.f18 2
noncomputable def l18_2 : List Rop := [⟨some 6, .assign (.const (.bool false)), none⟩]
theorem r18_2 : o18_2.toList.mapM (resolveG o18_2) = some l18_2 := by kernel_rfl
noncomputable def o18_3 : Array Oper := regOps Try.f18 3
noncomputable def l18_3 : List Rop := [⟨some 15, .move (.tmp 0), none⟩,
  ⟨some 16, .call ⟨.builtin .len, #[.tmp 15], #[22]⟩, none⟩,
  ⟨some 17, .move (.const (.int .i64 0)), none⟩]
theorem r18_3 : o18_3.toList.mapM (resolveG o18_3) = some l18_3 := by kernel_rfl
noncomputable def o18_4 : Array Oper := regOps Try.f18 4
noncomputable def l18_4 : List Rop := [⟨some 18, .binOp .lss 3 (.tmp 17) (.tmp 16) 3, none⟩]
theorem r18_4 : o18_4.toList.mapM (resolveG o18_4) = some l18_4 := by kernel_rfl
noncomputable def o18_5 : Array Oper := regOps Try.f18 5
noncomputable def l18_5 : List Rop := [⟨some 19, .move (.tmp 17), none⟩,
  ⟨some 20, .indexAddr 22 (.tmp 15) (.tmp 17), none⟩,
  ⟨some 21, .load 25 (.tmp 20), none⟩,
  ⟨some 8, .alloc 25, none⟩,
  ⟨some 7, .assign (.tmp 19), none⟩,
  ⟨none, .store 25 (.tmp 8) (.tmp 21), none⟩]
theorem r18_5 : o18_5.toList.mapM (resolveG o18_5) = some l18_5 := by kernel_rfl
noncomputable def o18_6 : Array Oper := regOps Try.f18 6
noncomputable def l18_6 : List Rop := [⟨some 22, .move (.tmp 1), none⟩,
  ⟨some 23, .move (.tmp 7), none⟩,
  ⟨some 24, .indexAddr 22 (.tmp 22) (.tmp 23), none⟩,
  ⟨some 25, .load 25 (.tmp 24), none⟩,
  ⟨some 9, .alloc 25, none⟩,
  ⟨none, .store 25 (.tmp 9) (.tmp 25), none⟩]
theorem r18_6 : o18_6.toList.mapM (resolveG o18_6) = some l18_6 := by kernel_rfl
noncomputable def o18_7 : Array Oper := regOps Try.f18 7
noncomputable def l18_7 : List Rop := [⟨some 26, .move (.tmp 2), none⟩,
  ⟨some 27, .load 25 (.tmp 8), none⟩,
  ⟨some 28, .load 25 (.tmp 9), none⟩,
  ⟨some 29, .call ⟨.value (.tmp 26), #[.tmp 27, .tmp 28], #[25, 25]⟩, none⟩,
  ⟨some 30, .unOp .not 4 (.tmp 29), none⟩]
theorem r18_7 : o18_7.toList.mapM (resolveG o18_7) = some l18_7 := by kernel_rfl
noncomputable def o18_8 : Array Oper := regOps Try.f18 8
noncomputable def l18_8 : List Rop := [⟨some 6, .assign (.const (.bool false)), none⟩]
theorem r18_8 : o18_8.toList.mapM (resolveG o18_8) = some l18_8 := by kernel_rfl
noncomputable def o18_9 : Array Oper := regOps Try.f18 9
noncomputable def l18_9 : List Rop := [⟨some 31, .binOp .add 3 (.tmp 17) (.const (.int .i64 1)) 3, none⟩,
  ⟨some 17, .move (.tmp 31), none⟩]
theorem r18_9 : o18_9.toList.mapM (resolveG o18_9) = some l18_9 := by kernel_rfl
noncomputable def o18_10 : Array Oper := regOps Try.f18 10
noncomputable def l18_10 : List Rop := [⟨some 6, .assign (.const (.bool true)), none⟩]
theorem r18_10 : o18_10.toList.mapM (resolveG o18_10) = some l18_10 := by kernel_rfl
noncomputable def b18_L0 : Code := Code.seq (Code.region 4 o18_4 false) (Code.seq (Code.cond (Operand.tmp 18) Code.skip (Code.exit 0)) (Code.seq (Code.block 1 (Code.seq (Code.region 5 o18_5 false) (Code.seq (Code.region 6 o18_6 false) (Code.seq (Code.region 7 o18_7 false) (Code.cond (Operand.tmp 30) (Code.seq (Code.region 8 o18_8 false) Code.ret) Code.skip))))) (Code.region 9 o18_9 false)))
noncomputable def b18 : Code := (Code.seq (Code.region 0 o18_0 false) (Code.seq (Code.seq (Code.region 1 o18_1 false) (Code.cond (Operand.tmp 14) (Code.seq (Code.region 2 o18_2 false) Code.ret) Code.skip)) (Code.seq (Code.seq (Code.region 3 o18_3 false) (Code.block 0 (Code.loop b18_L0))) (Code.seq (Code.region 10 o18_10 false) Code.ret))))
theorem b18_eq : Try.f18.body = some b18 := by kernel_rfl
noncomputable def o19_0 : Array Oper := regOps Try.f19 0
noncomputable def l19_0 : List Rop := [⟨some 2, .box 25 (.tmp 0), none⟩,
  ⟨some 3, .box 25 (.tmp 1), none⟩,
  ⟨some 4, .assign (.const (.bool false)), none⟩]
theorem r19_0 : o19_0.toList.mapM (resolveG o19_0) = some l19_0 := by kernel_rfl
noncomputable def o19_1 : Array Oper := regOps Try.f19 1
noncomputable def l19_1 : List Rop := [⟨some 5, .fieldAddr 25 (.tmp 2) 0, none⟩,
  ⟨some 6, .load 5 (.tmp 5), none⟩,
  ⟨some 7, .fieldAddr 25 (.tmp 3) 0, none⟩,
  ⟨some 8, .load 5 (.tmp 7), none⟩,
  ⟨some 9, .binOp .eql 5 (.tmp 6) (.tmp 8) 5, none⟩,
  ⟨some 10, .move (.tmp 9), none⟩,
  ⟨some 11, .fieldAddr 25 (.tmp 2) 1, some (10, true)⟩,
  ⟨some 12, .load 3 (.tmp 11), some (10, true)⟩,
  ⟨some 13, .fieldAddr 25 (.tmp 3) 1, some (10, true)⟩,
  ⟨some 14, .load 3 (.tmp 13), some (10, true)⟩,
  ⟨some 15, .binOp .eql 3 (.tmp 12) (.tmp 14) 3, some (10, true)⟩,
  ⟨some 16, .pick (.tmp 10) (.tmp 15) (.const (.bool false)), none⟩,
  ⟨some 17, .move (.tmp 16), none⟩,
  ⟨some 18, .fieldAddr 25 (.tmp 2) 2, some (17, true)⟩,
  ⟨some 19, .load 3 (.tmp 18), some (17, true)⟩,
  ⟨some 20, .fieldAddr 25 (.tmp 3) 2, some (17, true)⟩,
  ⟨some 21, .load 3 (.tmp 20), some (17, true)⟩,
  ⟨some 22, .binOp .eql 3 (.tmp 19) (.tmp 21) 3, some (17, true)⟩,
  ⟨some 23, .pick (.tmp 17) (.tmp 22) (.const (.bool false)), none⟩,
  ⟨some 24, .move (.tmp 23), none⟩,
  ⟨some 25, .fieldAddr 25 (.tmp 2) 3, some (24, true)⟩,
  ⟨some 26, .load 3 (.tmp 25), some (24, true)⟩,
  ⟨some 27, .fieldAddr 25 (.tmp 3) 3, some (24, true)⟩,
  ⟨some 28, .load 3 (.tmp 27), some (24, true)⟩,
  ⟨some 29, .binOp .eql 3 (.tmp 26) (.tmp 28) 3, some (24, true)⟩,
  ⟨some 30, .pick (.tmp 24) (.tmp 29) (.const (.bool false)), none⟩,
  ⟨some 31, .move (.tmp 30), none⟩,
  ⟨some 32, .fieldAddr 25 (.tmp 2) 4, some (31, true)⟩,
  ⟨some 33, .load 23 (.tmp 32), some (31, true)⟩,
  ⟨some 34, .fieldAddr 25 (.tmp 3) 4, some (31, true)⟩,
  ⟨some 35, .load 23 (.tmp 34), some (31, true)⟩,
  ⟨some 36, .call ⟨.value (.func 20), #[.tmp 33, .tmp 35], #[23, 23]⟩, some (31, true)⟩,
  ⟨some 37, .pick (.tmp 31) (.tmp 36) (.const (.bool false)), none⟩,
  ⟨some 4, .assign (.tmp 37), none⟩]
theorem r19_1 : o19_1.toList.mapM (resolveG o19_1) = some l19_1 := by kernel_rfl
noncomputable def b19 : Code := (Code.seq (Code.region 0 o19_0 false) (Code.seq (Code.region 1 o19_1 false) Code.ret))
theorem b19_eq : Try.f19.body = some b19 := by kernel_rfl
noncomputable def o20_0 : Array Oper := regOps Try.f20 0
noncomputable def l20_0 : List Rop := [⟨some 4, .assign (.const (.bool false)), none⟩]
theorem r20_0 : o20_0.toList.mapM (resolveG o20_0) = some l20_0 := by kernel_rfl
noncomputable def o20_1 : Array Oper := regOps Try.f20 1
noncomputable def l20_1 : List Rop := [⟨some 6, .move (.tmp 0), none⟩,
  ⟨some 7, .call ⟨.builtin .len, #[.tmp 6], #[23]⟩, none⟩,
  ⟨some 8, .move (.tmp 1), none⟩,
  ⟨some 9, .call ⟨.builtin .len, #[.tmp 8], #[23]⟩, none⟩,
  ⟨some 10, .binOp .neq 3 (.tmp 7) (.tmp 9) 3, none⟩]
theorem r20_1 : o20_1.toList.mapM (resolveG o20_1) = some l20_1 := by kernel_rfl
noncomputable def o20_2 : Array Oper := regOps Try.f20 2
noncomputable def l20_2 : List Rop := [⟨some 4, .assign (.const (.bool false)), none⟩]
theorem r20_2 : o20_2.toList.mapM (resolveG o20_2) = some l20_2 := by kernel_rfl
noncomputable def o20_3 : Array Oper := regOps Try.f20 3
noncomputable def l20_3 : List Rop := [⟨some 11, .move (.tmp 0), none⟩,
  ⟨some 12, .call ⟨.builtin .len, #[.tmp 11], #[23]⟩, none⟩,
  ⟨some 13, .move (.const (.int .i64 0)), none⟩]
theorem r20_3 : o20_3.toList.mapM (resolveG o20_3) = some l20_3 := by kernel_rfl
noncomputable def o20_4 : Array Oper := regOps Try.f20 4
noncomputable def l20_4 : List Rop := [⟨some 14, .binOp .lss 3 (.tmp 13) (.tmp 12) 3, none⟩]
theorem r20_4 : o20_4.toList.mapM (resolveG o20_4) = some l20_4 := by kernel_rfl
noncomputable def o20_5 : Array Oper := regOps Try.f20 5
noncomputable def l20_5 : List Rop := [⟨some 15, .move (.tmp 13), none⟩,
  ⟨some 5, .assign (.tmp 15), none⟩]
theorem r20_5 : o20_5.toList.mapM (resolveG o20_5) = some l20_5 := by kernel_rfl
noncomputable def o20_6 : Array Oper := regOps Try.f20 6
noncomputable def l20_6 : List Rop := [⟨some 16, .move (.tmp 0), none⟩,
  ⟨some 17, .move (.tmp 5), none⟩,
  ⟨some 18, .indexAddr 23 (.tmp 16) (.tmp 17), none⟩,
  ⟨some 19, .load 3 (.tmp 18), none⟩,
  ⟨some 20, .move (.tmp 1), none⟩,
  ⟨some 21, .move (.tmp 5), none⟩,
  ⟨some 22, .indexAddr 23 (.tmp 20) (.tmp 21), none⟩,
  ⟨some 23, .load 3 (.tmp 22), none⟩,
  ⟨some 24, .binOp .neq 3 (.tmp 19) (.tmp 23) 3, none⟩]
theorem r20_6 : o20_6.toList.mapM (resolveG o20_6) = some l20_6 := by kernel_rfl
noncomputable def o20_7 : Array Oper := regOps Try.f20 7
noncomputable def l20_7 : List Rop := [⟨some 4, .assign (.const (.bool false)), none⟩]
theorem r20_7 : o20_7.toList.mapM (resolveG o20_7) = some l20_7 := by kernel_rfl
noncomputable def o20_8 : Array Oper := regOps Try.f20 8
noncomputable def l20_8 : List Rop := [⟨some 25, .binOp .add 3 (.tmp 13) (.const (.int .i64 1)) 3, none⟩,
  ⟨some 13, .move (.tmp 25), none⟩]
theorem r20_8 : o20_8.toList.mapM (resolveG o20_8) = some l20_8 := by kernel_rfl
noncomputable def o20_9 : Array Oper := regOps Try.f20 9
noncomputable def l20_9 : List Rop := [⟨some 4, .assign (.const (.bool true)), none⟩]
theorem r20_9 : o20_9.toList.mapM (resolveG o20_9) = some l20_9 := by kernel_rfl
noncomputable def b20_L0 : Code := Code.seq (Code.region 4 o20_4 false) (Code.seq (Code.cond (Operand.tmp 14) Code.skip (Code.exit 0)) (Code.seq (Code.block 1 (Code.seq (Code.region 5 o20_5 false) (Code.seq (Code.region 6 o20_6 true) (Code.cond (Operand.tmp 24) (Code.seq (Code.region 7 o20_7 false) Code.ret) Code.skip)))) (Code.region 8 o20_8 false)))
noncomputable def b20 : Code := (Code.seq (Code.region 0 o20_0 false) (Code.seq (Code.seq (Code.region 1 o20_1 false) (Code.cond (Operand.tmp 10) (Code.seq (Code.region 2 o20_2 false) Code.ret) Code.skip)) (Code.seq (Code.seq (Code.region 3 o20_3 false) (Code.block 0 (Code.loop b20_L0))) (Code.seq (Code.region 9 o20_9 false) Code.ret))))
theorem b20_eq : Try.f20.body = some b20 := by kernel_rfl
end Go.Proofs.Ytjcgaelibiiiiaa
