import Derived.Test.YtjcgaelibiiiiaaDoorProg
import Derived.Test.YtjcgaelibiiiiaaDoorAbsWp
import Derived.KernelRfl
set_option linter.unusedVariables false
namespace Go.Proofs.YtjcgaelibiiiiaaDoor
open Go.Abs
noncomputable def o3_0 : Array Oper := regOps Tryd.f3 0
noncomputable def l3_0 : List Rop := [⟨some 6, .assign (.const (.bool false)), none⟩]
theorem r3_0 : o3_0.toList.mapM (resolveG o3_0) = some l3_0 := by kernel_rfl
noncomputable def o3_1 : Array Oper := regOps Tryd.f3 1
noncomputable def l3_1 : List Rop := [⟨some 21, .move (.tmp 0), none⟩,
  ⟨some 22, .call ⟨.builtin .len, #[.tmp 21], #[23]⟩, none⟩,
  ⟨some 23, .binOp .gtr 3 (.tmp 22) (.const (.int .i64 10)) 3, none⟩,
  ⟨some 24, .move (.tmp 23), none⟩,
  ⟨some 25, .move (.tmp 1), some (24, false)⟩,
  ⟨some 26, .call ⟨.builtin .len, #[.tmp 25], #[23]⟩, some (24, false)⟩,
  ⟨some 27, .binOp .gtr 3 (.tmp 26) (.const (.int .i64 10)) 3, some (24, false)⟩,
  ⟨some 28, .pick (.tmp 24) (.const (.bool true)) (.tmp 27), none⟩]
theorem r3_1 : o3_1.toList.mapM (resolveG o3_1) = some l3_1 := by kernel_rfl
noncomputable def o3_2 : Array Oper := regOps Tryd.f3 2
noncomputable def l3_2 : List Rop := [⟨some 6, .assign (.const (.bool true)), none⟩]
theorem r3_2 : o3_2.toList.mapM (resolveG o3_2) = some l3_2 := by kernel_rfl
noncomputable def o3_3 : Array Oper := regOps Tryd.f3 3
noncomputable def l3_3 : List Rop := [⟨some 29, .buildSlice 23 0 #[], none⟩,
  ⟨some 30, .move (.tmp 0), none⟩,
  ⟨some 31, .call ⟨.builtin .append, #[.tmp 29, .tmp 30], #[23, 23]⟩, none⟩,
  ⟨some 7, .assign (.tmp 31), none⟩]
theorem r3_3 : o3_3.toList.mapM (resolveG o3_3) = some l3_3 := by kernel_rfl
noncomputable def o3_4 : Array Oper := regOps Tryd.f3 4
noncomputable def l3_4 : List Rop := [⟨some 33, .move (.tmp 7), none⟩,
  ⟨some 34, .call ⟨.value (.func 8), #[.tmp 33], #[23]⟩, none⟩,
  ⟨some 32, .move (.tmp 34), none⟩,
  ⟨some 35, .extract (.tmp 32) 0, none⟩,
  ⟨some 36, .extract (.tmp 32) 1, none⟩,
  ⟨some 8, .assign (.tmp 35), none⟩,
  ⟨some 9, .assign (.tmp 36), none⟩]
theorem r3_4 : o3_4.toList.mapM (resolveG o3_4) = some l3_4 := by kernel_rfl
noncomputable def o3_5 : Array Oper := regOps Tryd.f3 5
noncomputable def l3_5 : List Rop := [⟨some 38, .move (.tmp 0), none⟩,
  ⟨some 39, .call ⟨.value (.func 9), #[.tmp 38], #[23]⟩, none⟩,
  ⟨some 37, .move (.tmp 39), none⟩,
  ⟨some 40, .extract (.tmp 37) 0, none⟩,
  ⟨some 41, .extract (.tmp 37) 1, none⟩,
  ⟨some 10, .assign (.tmp 40), none⟩,
  ⟨some 11, .assign (.tmp 41), none⟩]
theorem r3_5 : o3_5.toList.mapM (resolveG o3_5) = some l3_5 := by kernel_rfl
noncomputable def o3_6 : Array Oper := regOps Tryd.f3 6
noncomputable def l3_6 : List Rop := [⟨some 43, .move (.tmp 7), none⟩,
  ⟨some 44, .move (.tmp 2), none⟩,
  ⟨some 45, .call ⟨.value (.func 10), #[.tmp 43, .tmp 44], #[23, 3]⟩, none⟩,
  ⟨some 42, .move (.tmp 45), none⟩,
  ⟨some 46, .extract (.tmp 42) 0, none⟩,
  ⟨some 47, .extract (.tmp 42) 1, none⟩,
  ⟨some 12, .assign (.tmp 46), none⟩,
  ⟨some 13, .assign (.tmp 47), none⟩]
theorem r3_6 : o3_6.toList.mapM (resolveG o3_6) = some l3_6 := by kernel_rfl
noncomputable def o3_7 : Array Oper := regOps Tryd.f3 7
noncomputable def l3_7 : List Rop := [⟨some 49, .move (.tmp 0), none⟩,
  ⟨some 50, .move (.tmp 2), none⟩,
  ⟨some 51, .call ⟨.value (.func 11), #[.tmp 49, .tmp 50], #[23, 3]⟩, none⟩,
  ⟨some 48, .move (.tmp 51), none⟩,
  ⟨some 52, .extract (.tmp 48) 0, none⟩,
  ⟨some 53, .extract (.tmp 48) 1, none⟩,
  ⟨some 14, .assign (.tmp 52), none⟩,
  ⟨some 15, .assign (.tmp 53), none⟩]
theorem r3_7 : o3_7.toList.mapM (resolveG o3_7) = some l3_7 := by kernel_rfl
noncomputable def o3_8 : Array Oper := regOps Tryd.f3 8
noncomputable def l3_8 : List Rop := [⟨some 55, .move (.tmp 7), none⟩,
  ⟨some 56, .call ⟨.value (.func 12), #[.tmp 55], #[23]⟩, none⟩,
  ⟨some 54, .move (.tmp 56), none⟩,
  ⟨some 57, .extract (.tmp 54) 0, none⟩,
  ⟨some 58, .extract (.tmp 54) 1, none⟩,
  ⟨some 16, .assign (.tmp 57), none⟩,
  ⟨some 17, .assign (.tmp 58), none⟩]
theorem r3_8 : o3_8.toList.mapM (resolveG o3_8) = some l3_8 := by kernel_rfl
noncomputable def o3_9 : Array Oper := regOps Tryd.f3 9
noncomputable def l3_9 : List Rop := [⟨some 60, .move (.tmp 0), none⟩,
  ⟨some 61, .call ⟨.value (.func 13), #[.tmp 60], #[23]⟩, none⟩,
  ⟨some 59, .move (.tmp 61), none⟩,
  ⟨some 62, .extract (.tmp 59) 0, none⟩,
  ⟨some 63, .extract (.tmp 59) 1, none⟩,
  ⟨some 18, .assign (.tmp 62), none⟩,
  ⟨some 19, .assign (.tmp 63), none⟩]
theorem r3_9 : o3_9.toList.mapM (resolveG o3_9) = some l3_9 := by kernel_rfl
noncomputable def o3_10 : Array Oper := regOps Tryd.f3 10
noncomputable def l3_10 : List Rop := [⟨some 64, .move (.tmp 8), none⟩,
  ⟨some 65, .move (.tmp 10), none⟩,
  ⟨some 66, .call ⟨.value (.func 14), #[.tmp 64, .tmp 65], #[24, 24]⟩, none⟩,
  ⟨some 67, .move (.tmp 66), none⟩,
  ⟨some 68, .move (.tmp 9), some (67, true)⟩,
  ⟨some 69, .move (.tmp 11), some (67, true)⟩,
  ⟨some 70, .binOp .eql 3 (.tmp 68) (.tmp 69) 3, some (67, true)⟩,
  ⟨some 71, .pick (.tmp 67) (.tmp 70) (.const (.bool false)), none⟩,
  ⟨some 72, .move (.tmp 71), none⟩,
  ⟨some 73, .move (.tmp 12), some (72, true)⟩,
  ⟨some 74, .move (.tmp 14), some (72, true)⟩,
  ⟨some 75, .binOp .eql 4 (.tmp 73) (.tmp 74) 4, some (72, true)⟩,
  ⟨some 76, .pick (.tmp 72) (.tmp 75) (.const (.bool false)), none⟩,
  ⟨some 77, .move (.tmp 76), none⟩,
  ⟨some 78, .move (.tmp 13), some (77, true)⟩,
  ⟨some 79, .move (.tmp 15), some (77, true)⟩,
  ⟨some 80, .binOp .eql 3 (.tmp 78) (.tmp 79) 3, some (77, true)⟩,
  ⟨some 81, .pick (.tmp 77) (.tmp 80) (.const (.bool false)), none⟩,
  ⟨some 82, .move (.tmp 81), none⟩,
  ⟨some 83, .move (.tmp 16), some (82, true)⟩,
  ⟨some 84, .move (.tmp 18), some (82, true)⟩,
  ⟨some 85, .binOp .eql 3 (.tmp 83) (.tmp 84) 3, some (82, true)⟩,
  ⟨some 86, .pick (.tmp 82) (.tmp 85) (.const (.bool false)), none⟩,
  ⟨some 87, .move (.tmp 86), none⟩,
  ⟨some 88, .move (.tmp 17), some (87, true)⟩,
  ⟨some 89, .move (.tmp 19), some (87, true)⟩,
  ⟨some 90, .binOp .eql 3 (.tmp 88) (.tmp 89) 3, some (87, true)⟩,
  ⟨some 91, .pick (.tmp 87) (.tmp 90) (.const (.bool false)), none⟩,
  ⟨some 20, .assign (.tmp 91), none⟩]
theorem r3_10 : o3_10.toList.mapM (resolveG o3_10) = some l3_10 := by kernel_rfl
noncomputable def o3_11 : Array Oper := regOps Tryd.f3 11
noncomputable def l3_11 : List Rop := [⟨some 92, .move (.tmp 20), none⟩,
  ⟨some 93, .move (.tmp 92), none⟩,
  ⟨some 94, .move (.tmp 7), some (93, true)⟩,
  ⟨some 95, .call ⟨.value (.func 15), #[.tmp 94], #[23]⟩, some (93, true)⟩,
  ⟨some 96, .move (.tmp 0), some (93, true)⟩,
  ⟨some 97, .call ⟨.value (.func 16), #[.tmp 96], #[23]⟩, some (93, true)⟩,
  ⟨some 98, .binOp .eql 3 (.tmp 95) (.tmp 97) 3, some (93, true)⟩,
  ⟨some 99, .pick (.tmp 93) (.tmp 98) (.const (.bool false)), none⟩,
  ⟨some 100, .move (.tmp 99), none⟩,
  ⟨some 101, .move (.tmp 7), some (100, true)⟩,
  ⟨some 102, .move (.tmp 1), some (100, true)⟩,
  ⟨some 103, .call ⟨.value (.func 17), #[.tmp 101, .tmp 102], #[23, 23]⟩, some (100, true)⟩,
  ⟨some 104, .move (.tmp 0), some (100, true)⟩,
  ⟨some 105, .move (.tmp 1), some (100, true)⟩,
  ⟨some 106, .call ⟨.value (.func 18), #[.tmp 104, .tmp 105], #[23, 23]⟩, some (100, true)⟩,
  ⟨some 107, .binOp .eql 4 (.tmp 103) (.tmp 106) 4, some (100, true)⟩,
  ⟨some 108, .pick (.tmp 100) (.tmp 107) (.const (.bool false)), none⟩,
  ⟨some 109, .move (.tmp 108), none⟩,
  ⟨some 110, .move (.tmp 7), some (109, true)⟩,
  ⟨some 111, .move (.tmp 0), some (109, true)⟩,
  ⟨some 112, .call ⟨.value (.func 18), #[.tmp 110, .tmp 111], #[23, 23]⟩, some (109, true)⟩,
  ⟨some 113, .pick (.tmp 109) (.tmp 112) (.const (.bool false)), none⟩,
  ⟨some 6, .assign (.tmp 113), none⟩]
theorem r3_11 : o3_11.toList.mapM (resolveG o3_11) = some l3_11 := by kernel_rfl
noncomputable def b3 : Code := (Code.seq (Code.region 0 o3_0 false) (Code.seq (Code.seq (Code.region 1 o3_1 false) (Code.cond (Operand.tmp 28) (Code.seq (Code.region 2 o3_2 false) Code.ret) Code.skip)) (Code.seq (Code.region 3 o3_3 false) (Code.seq (Code.region 4 o3_4 false) (Code.seq (Code.region 5 o3_5 false) (Code.seq (Code.region 6 o3_6 false) (Code.seq (Code.region 7 o3_7 false) (Code.seq (Code.region 8 o3_8 false) (Code.seq (Code.region 9 o3_9 false) (Code.seq (Code.region 10 o3_10 false) (Code.seq (Code.region 11 o3_11 false) Code.ret)))))))))))
theorem b3_eq : Tryd.f3.body = some b3 := by kernel_rfl
noncomputable def o4_0 : Array Oper := regOps Tryd.f4 0
noncomputable def l4_0 : List Rop := [⟨some 6, .assign (.const (.bool false)), none⟩]
theorem r4_0 : o4_0.toList.mapM (resolveG o4_0) = some l4_0 := by kernel_rfl
noncomputable def o4_1 : Array Oper := regOps Tryd.f4 1
noncomputable def l4_1 : List Rop := [⟨some 24, .call ⟨.value (.func 19), #[], #[]⟩, none⟩,
  ⟨some 7, .assign (.tmp 24), none⟩]
theorem r4_1 : o4_1.toList.mapM (resolveG o4_1) = some l4_1 := by kernel_rfl
noncomputable def o4_2 : Array Oper := regOps Tryd.f4 2
noncomputable def l4_2 : List Rop := [⟨some 25, .move (.tmp 0), none⟩,
  ⟨some 26, .call ⟨.builtin .len, #[.tmp 25], #[23]⟩, none⟩,
  ⟨some 27, .binOp .gtr 3 (.tmp 26) (.const (.int .i64 10)) 3, none⟩,
  ⟨some 28, .move (.tmp 27), none⟩,
  ⟨some 29, .move (.tmp 1), some (28, false)⟩,
  ⟨some 30, .call ⟨.builtin .len, #[.tmp 29], #[23]⟩, some (28, false)⟩,
  ⟨some 31, .binOp .gtr 3 (.tmp 30) (.const (.int .i64 10)) 3, some (28, false)⟩,
  ⟨some 32, .pick (.tmp 28) (.const (.bool true)) (.tmp 31), none⟩,
  ⟨some 33, .move (.tmp 32), none⟩,
  ⟨some 34, .move (.tmp 0), some (33, false)⟩,
  ⟨some 35, .call ⟨.value (.func 15), #[.tmp 34], #[23]⟩, some (33, false)⟩,
  ⟨some 36, .binOp .neq 25 (.tmp 35) (.const (.int .i64 0)) 25, some (33, false)⟩,
  ⟨some 37, .pick (.tmp 33) (.const (.bool true)) (.tmp 36), none⟩,
  ⟨some 38, .move (.tmp 37), none⟩,
  ⟨some 39, .move (.tmp 1), some (38, false)⟩,
  ⟨some 40, .call ⟨.value (.func 15), #[.tmp 39], #[23]⟩, some (38, false)⟩,
  ⟨some 41, .binOp .neq 25 (.tmp 40) (.const (.int .i64 0)) 25, some (38, false)⟩,
  ⟨some 42, .pick (.tmp 38) (.const (.bool true)) (.tmp 41), none⟩,
  ⟨some 43, .move (.tmp 42), none⟩,
  ⟨some 44, .move (.tmp 2), some (43, false)⟩,
  ⟨some 45, .binOp .lss 3 (.tmp 44) (.const (.int .i64 0)) 3, some (43, false)⟩,
  ⟨some 46, .pick (.tmp 43) (.const (.bool true)) (.tmp 45), none⟩,
  ⟨some 47, .move (.tmp 46), none⟩,
  ⟨some 48, .move (.tmp 2), some (47, false)⟩,
  ⟨some 49, .binOp .geq 3 (.tmp 48) (.const (.int .i64 1048576)) 3, some (47, false)⟩,
  ⟨some 50, .pick (.tmp 47) (.const (.bool true)) (.tmp 49), none⟩,
  ⟨some 51, .move (.tmp 50), none⟩,
  ⟨some 52, .move (.tmp 7), some (51, false)⟩,
  ⟨some 53, .unOp .not 4 (.tmp 52), some (51, false)⟩,
  ⟨some 54, .pick (.tmp 51) (.const (.bool true)) (.tmp 53), none⟩]
theorem r4_2 : o4_2.toList.mapM (resolveG o4_2) = some l4_2 := by kernel_rfl
noncomputable def o4_3 : Array Oper := regOps Tryd.f4 3
noncomputable def l4_3 : List Rop := [⟨some 55, .move (.tmp 7), none⟩,
  ⟨some 6, .assign (.tmp 55), none⟩]
theorem r4_3 : o4_3.toList.mapM (resolveG o4_3) = some l4_3 := by kernel_rfl
noncomputable def o4_4 : Array Oper := regOps Tryd.f4 4
noncomputable def l4_4 : List Rop := [⟨some 57, .move (.tmp 0), none⟩,
  ⟨some 58, .move (.tmp 1), none⟩,
  ⟨some 59, .call ⟨.value (.func 20), #[.tmp 57, .tmp 58], #[23, 23]⟩, none⟩,
  ⟨some 56, .move (.tmp 59), none⟩,
  ⟨some 60, .extract (.tmp 56) 0, none⟩,
  ⟨some 61, .extract (.tmp 56) 1, none⟩,
  ⟨some 8, .assign (.tmp 60), none⟩,
  ⟨some 9, .assign (.tmp 61), none⟩]
theorem r4_4 : o4_4.toList.mapM (resolveG o4_4) = some l4_4 := by kernel_rfl
noncomputable def o4_5 : Array Oper := regOps Tryd.f4 5
noncomputable def l4_5 : List Rop := [⟨some 63, .move (.tmp 0), none⟩,
  ⟨some 64, .move (.tmp 1), none⟩,
  ⟨some 65, .call ⟨.value (.func 21), #[.tmp 63, .tmp 64], #[23, 23]⟩, none⟩,
  ⟨some 62, .move (.tmp 65), none⟩,
  ⟨some 66, .extract (.tmp 62) 0, none⟩,
  ⟨some 67, .extract (.tmp 62) 1, none⟩,
  ⟨some 10, .assign (.tmp 66), none⟩,
  ⟨some 11, .assign (.tmp 67), none⟩]
theorem r4_5 : o4_5.toList.mapM (resolveG o4_5) = some l4_5 := by kernel_rfl
noncomputable def o4_6 : Array Oper := regOps Tryd.f4 6
noncomputable def l4_6 : List Rop := [⟨some 69, .move (.tmp 0), none⟩,
  ⟨some 70, .move (.tmp 1), none⟩,
  ⟨some 71, .call ⟨.value (.func 22), #[.tmp 69, .tmp 70], #[23, 23]⟩, none⟩,
  ⟨some 68, .move (.tmp 71), none⟩,
  ⟨some 72, .extract (.tmp 68) 0, none⟩,
  ⟨some 73, .extract (.tmp 68) 1, none⟩,
  ⟨some 12, .assign (.tmp 72), none⟩,
  ⟨some 13, .assign (.tmp 73), none⟩]
theorem r4_6 : o4_6.toList.mapM (resolveG o4_6) = some l4_6 := by kernel_rfl
noncomputable def o4_7 : Array Oper := regOps Tryd.f4 7
noncomputable def l4_7 : List Rop := [⟨some 75, .move (.tmp 0), none⟩,
  ⟨some 76, .move (.tmp 2), none⟩,
  ⟨some 77, .call ⟨.value (.func 10), #[.tmp 75, .tmp 76], #[23, 3]⟩, none⟩,
  ⟨some 74, .move (.tmp 77), none⟩,
  ⟨some 78, .extract (.tmp 74) 0, none⟩,
  ⟨some 79, .extract (.tmp 74) 1, none⟩,
  ⟨some 14, .assign (.tmp 78), none⟩,
  ⟨some 15, .assign (.tmp 79), none⟩]
theorem r4_7 : o4_7.toList.mapM (resolveG o4_7) = some l4_7 := by kernel_rfl
noncomputable def o4_8 : Array Oper := regOps Tryd.f4 8
noncomputable def l4_8 : List Rop := [⟨some 81, .move (.tmp 1), none⟩,
  ⟨some 82, .move (.tmp 2), none⟩,
  ⟨some 83, .call ⟨.value (.func 10), #[.tmp 81, .tmp 82], #[23, 3]⟩, none⟩,
  ⟨some 80, .move (.tmp 83), none⟩,
  ⟨some 84, .extract (.tmp 80) 0, none⟩,
  ⟨some 85, .extract (.tmp 80) 1, none⟩,
  ⟨some 16, .assign (.tmp 84), none⟩,
  ⟨some 17, .assign (.tmp 85), none⟩]
theorem r4_8 : o4_8.toList.mapM (resolveG o4_8) = some l4_8 := by kernel_rfl
noncomputable def o4_9 : Array Oper := regOps Tryd.f4 9
noncomputable def l4_9 : List Rop := [⟨some 87, .move (.tmp 8), none⟩,
  ⟨some 88, .move (.tmp 2), none⟩,
  ⟨some 89, .call ⟨.value (.func 10), #[.tmp 87, .tmp 88], #[23, 3]⟩, none⟩,
  ⟨some 86, .move (.tmp 89), none⟩,
  ⟨some 90, .extract (.tmp 86) 0, none⟩,
  ⟨some 91, .extract (.tmp 86) 1, none⟩,
  ⟨some 18, .assign (.tmp 90), none⟩,
  ⟨some 19, .assign (.tmp 91), none⟩]
theorem r4_9 : o4_9.toList.mapM (resolveG o4_9) = some l4_9 := by kernel_rfl
noncomputable def o4_10 : Array Oper := regOps Tryd.f4 10
noncomputable def l4_10 : List Rop := [⟨some 93, .move (.tmp 10), none⟩,
  ⟨some 94, .move (.tmp 2), none⟩,
  ⟨some 95, .call ⟨.value (.func 10), #[.tmp 93, .tmp 94], #[23, 3]⟩, none⟩,
  ⟨some 92, .move (.tmp 95), none⟩,
  ⟨some 96, .extract (.tmp 92) 0, none⟩,
  ⟨some 97, .extract (.tmp 92) 1, none⟩,
  ⟨some 20, .assign (.tmp 96), none⟩,
  ⟨some 21, .assign (.tmp 97), none⟩]
theorem r4_10 : o4_10.toList.mapM (resolveG o4_10) = some l4_10 := by kernel_rfl
noncomputable def o4_11 : Array Oper := regOps Tryd.f4 11
noncomputable def l4_11 : List Rop := [⟨some 99, .move (.tmp 12), none⟩,
  ⟨some 100, .move (.tmp 2), none⟩,
  ⟨some 101, .call ⟨.value (.func 10), #[.tmp 99, .tmp 100], #[23, 3]⟩, none⟩,
  ⟨some 98, .move (.tmp 101), none⟩,
  ⟨some 102, .extract (.tmp 98) 0, none⟩,
  ⟨some 103, .extract (.tmp 98) 1, none⟩,
  ⟨some 22, .assign (.tmp 102), none⟩,
  ⟨some 23, .assign (.tmp 103), none⟩]
theorem r4_11 : o4_11.toList.mapM (resolveG o4_11) = some l4_11 := by kernel_rfl
noncomputable def o4_12 : Array Oper := regOps Tryd.f4 12
noncomputable def l4_12 : List Rop := [⟨some 104, .move (.tmp 7), none⟩,
  ⟨some 105, .move (.tmp 104), none⟩,
  ⟨some 106, .move (.tmp 9), some (105, true)⟩,
  ⟨some 107, .move (.tmp 11), some (105, true)⟩,
  ⟨some 108, .move (.tmp 13), some (105, true)⟩,
  ⟨some 109, .call ⟨.builtin .max, #[.tmp 106, .tmp 107, .tmp 108], #[25, 25, 25]⟩, some (105, true)⟩,
  ⟨some 110, .binOp .eql 25 (.tmp 109) (.const (.int .i64 0)) 25, some (105, true)⟩,
  ⟨some 111, .pick (.tmp 105) (.tmp 110) (.const (.bool false)), none⟩,
  ⟨some 112, .move (.tmp 111), none⟩,
  ⟨some 113, .move (.tmp 15), some (112, true)⟩,
  ⟨some 114, .move (.tmp 17), some (112, true)⟩,
  ⟨some 115, .move (.tmp 19), some (112, true)⟩,
  ⟨some 116, .call ⟨.builtin .max, #[.tmp 113, .tmp 114, .tmp 115], #[25, 25, 25]⟩, some (112, true)⟩,
  ⟨some 117, .binOp .eql 25 (.tmp 116) (.const (.int .i64 0)) 25, some (112, true)⟩,
  ⟨some 118, .pick (.tmp 112) (.tmp 117) (.const (.bool false)), none⟩,
  ⟨some 119, .move (.tmp 118), none⟩,
  ⟨some 120, .move (.tmp 21), some (119, true)⟩,
  ⟨some 121, .move (.tmp 23), some (119, true)⟩,
  ⟨some 122, .call ⟨.builtin .max, #[.tmp 120, .tmp 121], #[25, 25]⟩, some (119, true)⟩,
  ⟨some 123, .binOp .eql 25 (.tmp 122) (.const (.int .i64 0)) 25, some (119, true)⟩,
  ⟨some 124, .pick (.tmp 119) (.tmp 123) (.const (.bool false)), none⟩,
  ⟨some 125, .move (.tmp 124), none⟩,
  ⟨some 126, .move (.tmp 18), some (125, true)⟩,
  ⟨some 127, .move (.tmp 14), some (125, true)⟩,
  ⟨some 128, .move (.tmp 127), some (125, true)⟩,
  ⟨some 129, .move (.tmp 16), some (128, false)⟩,
  ⟨some 130, .pick (.tmp 128) (.const (.bool true)) (.tmp 129), some (125, true)⟩,
  ⟨some 131, .binOp .eql 4 (.tmp 126) (.tmp 130) 4, some (125, true)⟩,
  ⟨some 132, .pick (.tmp 125) (.tmp 131) (.const (.bool false)), none⟩,
  ⟨some 133, .move (.tmp 132), none⟩,
  ⟨some 134, .move (.tmp 20), some (133, true)⟩,
  ⟨some 135, .move (.tmp 14), some (133, true)⟩,
  ⟨some 136, .move (.tmp 135), some (133, true)⟩,
  ⟨some 137, .move (.tmp 16), some (136, true)⟩,
  ⟨some 138, .pick (.tmp 136) (.tmp 137) (.const (.bool false)), some (133, true)⟩,
  ⟨some 139, .binOp .eql 4 (.tmp 134) (.tmp 138) 4, some (133, true)⟩,
  ⟨some 140, .pick (.tmp 133) (.tmp 139) (.const (.bool false)), none⟩,
  ⟨some 141, .move (.tmp 140), none⟩,
  ⟨some 142, .move (.tmp 22), some (141, true)⟩,
  ⟨some 143, .move (.tmp 14), some (141, true)⟩,
  ⟨some 144, .move (.tmp 143), some (141, true)⟩,
  ⟨some 145, .move (.tmp 16), some (144, true)⟩,
  ⟨some 146, .unOp .not 4 (.tmp 145), some (144, true)⟩,
  ⟨some 147, .pick (.tmp 144) (.tmp 146) (.const (.bool false)), some (141, true)⟩,
  ⟨some 148, .binOp .eql 4 (.tmp 142) (.tmp 147) 4, some (141, true)⟩,
  ⟨some 149, .pick (.tmp 141) (.tmp 148) (.const (.bool false)), none⟩,
  ⟨some 6, .assign (.tmp 149), none⟩]
theorem r4_12 : o4_12.toList.mapM (resolveG o4_12) = some l4_12 := by kernel_rfl
noncomputable def b4 : Code := (Code.seq (Code.region 0 o4_0 false) (Code.seq (Code.region 1 o4_1 false) (Code.seq (Code.seq (Code.region 2 o4_2 false) (Code.cond (Operand.tmp 54) (Code.seq (Code.region 3 o4_3 false) Code.ret) Code.skip)) (Code.seq (Code.region 4 o4_4 false) (Code.seq (Code.region 5 o4_5 false) (Code.seq (Code.region 6 o4_6 false) (Code.seq (Code.region 7 o4_7 false) (Code.seq (Code.region 8 o4_8 false) (Code.seq (Code.region 9 o4_9 false) (Code.seq (Code.region 10 o4_10 false) (Code.seq (Code.region 11 o4_11 false) (Code.seq (Code.region 12 o4_12 false) Code.ret))))))))))))
theorem b4_eq : Tryd.f4.body = some b4 := by kernel_rfl
noncomputable def o5_0 : Array Oper := regOps Tryd.f5 0
noncomputable def l5_0 : List Rop := [⟨some 4, .assign (.const (.bool false)), none⟩]
theorem r5_0 : o5_0.toList.mapM (resolveG o5_0) = some l5_0 := by kernel_rfl
noncomputable def o5_1 : Array Oper := regOps Tryd.f5 1
noncomputable def l5_1 : List Rop := [⟨some 18, .call ⟨.value (.func 19), #[], #[]⟩, none⟩,
  ⟨some 5, .assign (.tmp 18), none⟩]
theorem r5_1 : o5_1.toList.mapM (resolveG o5_1) = some l5_1 := by kernel_rfl
noncomputable def o5_2 : Array Oper := regOps Tryd.f5 2
noncomputable def l5_2 : List Rop := [⟨some 19, .move (.tmp 0), none⟩,
  ⟨some 20, .call ⟨.builtin .len, #[.tmp 19], #[23]⟩, none⟩,
  ⟨some 21, .binOp .gtr 3 (.tmp 20) (.const (.int .i64 10)) 3, none⟩,
  ⟨some 22, .move (.tmp 21), none⟩,
  ⟨some 23, .move (.tmp 1), some (22, false)⟩,
  ⟨some 24, .call ⟨.builtin .len, #[.tmp 23], #[24]⟩, some (22, false)⟩,
  ⟨some 25, .binOp .gtr 3 (.tmp 24) (.const (.int .i64 200)) 3, some (22, false)⟩,
  ⟨some 26, .pick (.tmp 22) (.const (.bool true)) (.tmp 25), none⟩,
  ⟨some 27, .move (.tmp 26), none⟩,
  ⟨some 28, .move (.tmp 5), some (27, false)⟩,
  ⟨some 29, .unOp .not 4 (.tmp 28), some (27, false)⟩,
  ⟨some 30, .pick (.tmp 27) (.const (.bool true)) (.tmp 29), none⟩]
theorem r5_2 : o5_2.toList.mapM (resolveG o5_2) = some l5_2 := by kernel_rfl
noncomputable def o5_3 : Array Oper := regOps Tryd.f5 3
noncomputable def l5_3 : List Rop := [⟨some 31, .move (.tmp 5), none⟩,
  ⟨some 4, .assign (.tmp 31), none⟩]
theorem r5_3 : o5_3.toList.mapM (resolveG o5_3) = some l5_3 := by kernel_rfl
noncomputable def o5_4 : Array Oper := regOps Tryd.f5 4
noncomputable def l5_4 : List Rop := [⟨some 33, .move (.tmp 0), none⟩,
  ⟨some 34, .call ⟨.value (.func 8), #[.tmp 33], #[23]⟩, none⟩,
  ⟨some 32, .move (.tmp 34), none⟩,
  ⟨some 35, .extract (.tmp 32) 0, none⟩,
  ⟨some 36, .extract (.tmp 32) 1, none⟩,
  ⟨some 6, .assign (.tmp 35), none⟩,
  ⟨some 7, .assign (.tmp 36), none⟩]
theorem r5_4 : o5_4.toList.mapM (resolveG o5_4) = some l5_4 := by kernel_rfl
noncomputable def o5_5 : Array Oper := regOps Tryd.f5 5
noncomputable def l5_5 : List Rop := [⟨some 37, .move (.tmp 7), none⟩,
  ⟨some 38, .binOp .eql 25 (.tmp 37) (.const (.int .i64 0)) 25, none⟩,
  ⟨some 39, .move (.tmp 38), none⟩,
  ⟨some 40, .move (.tmp 6), some (39, true)⟩,
  ⟨some 41, .call ⟨.value (.func 23), #[.tmp 40], #[24]⟩, some (39, true)⟩,
  ⟨some 42, .move (.tmp 0), some (39, true)⟩,
  ⟨some 43, .call ⟨.value (.func 17), #[.tmp 41, .tmp 42], #[23, 23]⟩, some (39, true)⟩,
  ⟨some 44, .unOp .not 4 (.tmp 43), some (39, true)⟩,
  ⟨some 45, .pick (.tmp 39) (.tmp 44) (.const (.bool false)), none⟩]
theorem r5_5 : o5_5.toList.mapM (resolveG o5_5) = some l5_5 := by kernel_rfl
noncomputable def o5_6 : Array Oper := regOps Tryd.f5 6
noncomputable def l5_6 : List Rop := [⟨some 4, .assign (.const (.bool false)), none⟩]
theorem r5_6 : o5_6.toList.mapM (resolveG o5_6) = some l5_6 := by kernel_rfl
noncomputable def o5_7 : Array Oper := regOps Tryd.f5 7
noncomputable def l5_7 : List Rop := [⟨some 47, .move (.tmp 1), none⟩,
  ⟨some 48, .call ⟨.value (.func 24), #[.tmp 47], #[24]⟩, none⟩,
  ⟨some 46, .move (.tmp 48), none⟩,
  ⟨some 49, .extract (.tmp 46) 0, none⟩,
  ⟨some 50, .extract (.tmp 46) 1, none⟩,
  ⟨some 8, .assign (.tmp 49), none⟩,
  ⟨some 9, .assign (.tmp 50), none⟩]
theorem r5_7 : o5_7.toList.mapM (resolveG o5_7) = some l5_7 := by kernel_rfl
noncomputable def o5_8 : Array Oper := regOps Tryd.f5 8
noncomputable def l5_8 : List Rop := [⟨some 51, .move (.tmp 9), none⟩,
  ⟨some 52, .binOp .neq 25 (.tmp 51) (.const (.int .i64 0)) 25, none⟩]
theorem r5_8 : o5_8.toList.mapM (resolveG o5_8) = some l5_8 := by kernel_rfl
noncomputable def o5_9 : Array Oper := regOps Tryd.f5 9
noncomputable def l5_9 : List Rop := [⟨some 53, .move (.tmp 5), none⟩,
  ⟨some 54, .move (.tmp 53), none⟩,
  ⟨some 55, .move (.tmp 8), some (54, true)⟩,
  ⟨some 56, .call ⟨.builtin .len, #[.tmp 55], #[23]⟩, some (54, true)⟩,
  ⟨some 57, .binOp .eql 3 (.tmp 56) (.const (.int .i64 0)) 3, some (54, true)⟩,
  ⟨some 58, .pick (.tmp 54) (.tmp 57) (.const (.bool false)), none⟩,
  ⟨some 4, .assign (.tmp 58), none⟩]
theorem r5_9 : o5_9.toList.mapM (resolveG o5_9) = some l5_9 := by kernel_rfl
noncomputable def o5_10 : Array Oper := regOps Tryd.f5 10
noncomputable def l5_10 : List Rop := [⟨some 60, .move (.tmp 8), none⟩,
  ⟨some 61, .call ⟨.value (.func 8), #[.tmp 60], #[23]⟩, none⟩,
  ⟨some 59, .move (.tmp 61), none⟩,
  ⟨some 62, .extract (.tmp 59) 0, none⟩,
  ⟨some 63, .extract (.tmp 59) 1, none⟩,
  ⟨some 10, .assign (.tmp 62), none⟩,
  ⟨some 11, .assign (.tmp 63), none⟩]
theorem r5_10 : o5_10.toList.mapM (resolveG o5_10) = some l5_10 := by kernel_rfl
noncomputable def o5_11 : Array Oper := regOps Tryd.f5 11
noncomputable def l5_11 : List Rop := [⟨some 12, .assign (.const (.int .i64 0)), none⟩]
theorem r5_11 : o5_11.toList.mapM (resolveG o5_11) = some l5_11 := by kernel_rfl
noncomputable def o5_12 : Array Oper := regOps Tryd.f5 12
noncomputable def l5_12 : List Rop := [⟨some 64, .move (.tmp 12), none⟩,
  ⟨some 65, .move (.tmp 10), none⟩,
  ⟨some 66, .call ⟨.builtin .len, #[.tmp 65], #[24]⟩, none⟩,
  ⟨some 67, .binOp .lss 3 (.tmp 64) (.tmp 66) 3, none⟩]
theorem r5_12 : o5_12.toList.mapM (resolveG o5_12) = some l5_12 := by kernel_rfl
noncomputable def o5_14 : Array Oper := regOps Tryd.f5 14
noncomputable def l5_14 : List Rop := [⟨some 13, .assign (.const (.bool false)), none⟩]
theorem r5_14 : o5_14.toList.mapM (resolveG o5_14) = some l5_14 := by kernel_rfl
noncomputable def o5_15 : Array Oper := regOps Tryd.f5 15
noncomputable def l5_15 : List Rop := [⟨some 14, .assign (.const (.int .i64 0)), none⟩]
theorem r5_15 : o5_15.toList.mapM (resolveG o5_15) = some l5_15 := by kernel_rfl
noncomputable def o5_16 : Array Oper := regOps Tryd.f5 16
noncomputable def l5_16 : List Rop := [⟨some 70, .move (.tmp 14), none⟩,
  ⟨some 71, .move (.tmp 1), none⟩,
  ⟨some 72, .call ⟨.builtin .len, #[.tmp 71], #[24]⟩, none⟩,
  ⟨some 73, .binOp .lss 3 (.tmp 70) (.tmp 72) 3, none⟩]
theorem r5_16 : o5_16.toList.mapM (resolveG o5_16) = some l5_16 := by kernel_rfl
noncomputable def o5_18 : Array Oper := regOps Tryd.f5 18
noncomputable def l5_18 : List Rop := [⟨some 76, .move (.tmp 13), none⟩,
  ⟨some 77, .move (.tmp 76), none⟩,
  ⟨some 78, .move (.tmp 1), some (77, false)⟩,
  ⟨some 79, .move (.tmp 14), some (77, false)⟩,
  ⟨some 80, .indexAddr 24 (.tmp 78) (.tmp 79), some (77, false)⟩,
  ⟨some 81, .load 3 (.tmp 80), some (77, false)⟩,
  ⟨some 82, .move (.tmp 10), some (77, false)⟩,
  ⟨some 83, .move (.tmp 12), some (77, false)⟩,
  ⟨some 84, .indexAddr 24 (.tmp 82) (.tmp 83), some (77, false)⟩,
  ⟨some 85, .load 3 (.tmp 84), some (77, false)⟩,
  ⟨some 86, .binOp .eql 3 (.tmp 81) (.tmp 85) 3, some (77, false)⟩,
  ⟨some 87, .pick (.tmp 77) (.const (.bool true)) (.tmp 86), none⟩,
  ⟨some 13, .assign (.tmp 87), none⟩]
theorem r5_18 : o5_18.toList.mapM (resolveG o5_18) = some l5_18 := by kernel_rfl
noncomputable def o5_17 : Array Oper := regOps Tryd.f5 17
noncomputable def l5_17 : List Rop := [⟨some 74, .move (.tmp 14), none⟩,
  ⟨some 75, .binOp .add 3 (.tmp 74) (.const (.int .i64 1)) 3, none⟩,
  ⟨some 14, .assign (.tmp 75), none⟩]
theorem r5_17 : o5_17.toList.mapM (resolveG o5_17) = some l5_17 := by kernel_rfl
noncomputable def o5_19 : Array Oper := regOps Tryd.f5 19
noncomputable def l5_19 : List Rop := [⟨some 88, .move (.tmp 13), none⟩,
  ⟨some 89, .unOp .not 4 (.tmp 88), none⟩,
  ⟨some 90, .move (.tmp 89), none⟩,
  ⟨some 91, .move (.tmp 12), some (90, false)⟩,
  ⟨some 92, .binOp .gtr 3 (.tmp 91) (.const (.int .i64 0)) 3, some (90, false)⟩,
  ⟨some 93, .move (.tmp 92), some (90, false)⟩,
  ⟨some 94, .move (.tmp 10), some (93, true)⟩,
  ⟨some 95, .move (.tmp 12), some (93, true)⟩,
  ⟨some 96, .binOp .sub 3 (.tmp 95) (.const (.int .i64 1)) 3, some (93, true)⟩,
  ⟨some 97, .indexAddr 24 (.tmp 94) (.tmp 96), some (93, true)⟩,
  ⟨some 98, .load 3 (.tmp 97), some (93, true)⟩,
  ⟨some 99, .move (.tmp 10), some (93, true)⟩,
  ⟨some 100, .move (.tmp 12), some (93, true)⟩,
  ⟨some 101, .indexAddr 24 (.tmp 99) (.tmp 100), some (93, true)⟩,
  ⟨some 102, .load 3 (.tmp 101), some (93, true)⟩,
  ⟨some 103, .binOp .geq 3 (.tmp 98) (.tmp 102) 3, some (93, true)⟩,
  ⟨some 104, .pick (.tmp 93) (.tmp 103) (.const (.bool false)), some (90, false)⟩,
  ⟨some 105, .pick (.tmp 90) (.const (.bool true)) (.tmp 104), none⟩]
theorem r5_19 : o5_19.toList.mapM (resolveG o5_19) = some l5_19 := by kernel_rfl
noncomputable def o5_20 : Array Oper := regOps Tryd.f5 20
noncomputable def l5_20 : List Rop := [⟨some 4, .assign (.const (.bool false)), none⟩]
theorem r5_20 : o5_20.toList.mapM (resolveG o5_20) = some l5_20 := by kernel_rfl
noncomputable def o5_13 : Array Oper := regOps Tryd.f5 13
noncomputable def l5_13 : List Rop := [⟨some 68, .move (.tmp 12), none⟩,
  ⟨some 69, .binOp .add 3 (.tmp 68) (.const (.int .i64 1)) 3, none⟩,
  ⟨some 12, .assign (.tmp 69), none⟩]
theorem r5_13 : o5_13.toList.mapM (resolveG o5_13) = some l5_13 := by kernel_rfl
noncomputable def o5_21 : Array Oper := regOps Tryd.f5 21
noncomputable def l5_21 : List Rop := [⟨some 15, .assign (.const (.int .i64 0)), none⟩]
theorem r5_21 : o5_21.toList.mapM (resolveG o5_21) = some l5_21 := by kernel_rfl
noncomputable def o5_22 : Array Oper := regOps Tryd.f5 22
noncomputable def l5_22 : List Rop := [⟨some 106, .move (.tmp 15), none⟩,
  ⟨some 107, .move (.tmp 1), none⟩,
  ⟨some 108, .call ⟨.builtin .len, #[.tmp 107], #[24]⟩, none⟩,
  ⟨some 109, .binOp .lss 3 (.tmp 106) (.tmp 108) 3, none⟩]
theorem r5_22 : o5_22.toList.mapM (resolveG o5_22) = some l5_22 := by kernel_rfl
noncomputable def o5_24 : Array Oper := regOps Tryd.f5 24
noncomputable def l5_24 : List Rop := [⟨some 113, .move (.tmp 8), none⟩,
  ⟨some 114, .move (.tmp 1), none⟩,
  ⟨some 115, .move (.tmp 15), none⟩,
  ⟨some 116, .indexAddr 24 (.tmp 114) (.tmp 115), none⟩,
  ⟨some 117, .load 3 (.tmp 116), none⟩,
  ⟨some 118, .call ⟨.value (.func 10), #[.tmp 113, .tmp 117], #[23, 3]⟩, none⟩,
  ⟨some 112, .move (.tmp 118), none⟩,
  ⟨some 119, .extract (.tmp 112) 0, none⟩,
  ⟨some 120, .extract (.tmp 112) 1, none⟩,
  ⟨some 16, .assign (.tmp 119), none⟩,
  ⟨some 17, .assign (.tmp 120), none⟩]
theorem r5_24 : o5_24.toList.mapM (resolveG o5_24) = some l5_24 := by kernel_rfl
noncomputable def o5_25 : Array Oper := regOps Tryd.f5 25
noncomputable def l5_25 : List Rop := [⟨some 121, .move (.tmp 16), none⟩,
  ⟨some 122, .unOp .not 4 (.tmp 121), none⟩,
  ⟨some 123, .move (.tmp 122), none⟩,
  ⟨some 124, .move (.tmp 17), some (123, false)⟩,
  ⟨some 125, .binOp .neq 25 (.tmp 124) (.const (.int .i64 0)) 25, some (123, false)⟩,
  ⟨some 126, .pick (.tmp 123) (.const (.bool true)) (.tmp 125), none⟩]
theorem r5_25 : o5_25.toList.mapM (resolveG o5_25) = some l5_25 := by kernel_rfl
noncomputable def o5_26 : Array Oper := regOps Tryd.f5 26
noncomputable def l5_26 : List Rop := [⟨some 4, .assign (.const (.bool false)), none⟩]
theorem r5_26 : o5_26.toList.mapM (resolveG o5_26) = some l5_26 := by kernel_rfl
noncomputable def o5_23 : Array Oper := regOps Tryd.f5 23
noncomputable def l5_23 : List Rop := [⟨some 110, .move (.tmp 15), none⟩,
  ⟨some 111, .binOp .add 3 (.tmp 110) (.const (.int .i64 1)) 3, none⟩,
  ⟨some 15, .assign (.tmp 111), none⟩]
theorem r5_23 : o5_23.toList.mapM (resolveG o5_23) = some l5_23 := by kernel_rfl
noncomputable def o5_27 : Array Oper := regOps Tryd.f5 27
noncomputable def l5_27 : List Rop := [⟨some 127, .move (.tmp 5), none⟩,
  ⟨some 128, .move (.tmp 127), none⟩,
  ⟨some 129, .move (.tmp 11), some (128, true)⟩,
  ⟨some 130, .binOp .eql 25 (.tmp 129) (.const (.int .i64 0)) 25, some (128, true)⟩,
  ⟨some 131, .pick (.tmp 128) (.tmp 130) (.const (.bool false)), none⟩,
  ⟨some 132, .move (.tmp 131), none⟩,
  ⟨some 133, .move (.tmp 8), some (132, true)⟩,
  ⟨some 134, .call ⟨.value (.func 15), #[.tmp 133], #[23]⟩, some (132, true)⟩,
  ⟨some 135, .binOp .eql 25 (.tmp 134) (.const (.int .i64 0)) 25, some (132, true)⟩,
  ⟨some 136, .pick (.tmp 132) (.tmp 135) (.const (.bool false)), none⟩,
  ⟨some 4, .assign (.tmp 136), none⟩]
theorem r5_27 : o5_27.toList.mapM (resolveG o5_27) = some l5_27 := by kernel_rfl
noncomputable def b5_L0 : Code := Code.seq (Code.seq (Code.region 22 o5_22 false) (Code.cond (Operand.tmp 109) Code.skip (Code.exit 4))) (Code.seq (Code.block 5 (Code.seq (Code.region 24 o5_24 false) (Code.seq (Code.region 25 o5_25 false) (Code.cond (Operand.tmp 126) (Code.seq (Code.region 26 o5_26 false) Code.ret) Code.skip)))) (Code.region 23 o5_23 false))
noncomputable def b5_L1 : Code := Code.seq (Code.seq (Code.region 16 o5_16 false) (Code.cond (Operand.tmp 73) Code.skip (Code.exit 2))) (Code.seq (Code.block 3 (Code.region 18 o5_18 true)) (Code.region 17 o5_17 false))
noncomputable def b5_L2 : Code := Code.seq (Code.seq (Code.region 12 o5_12 false) (Code.cond (Operand.tmp 67) Code.skip (Code.exit 0))) (Code.seq (Code.block 1 (Code.seq (Code.region 14 o5_14 false) (Code.seq (Code.seq (Code.region 15 o5_15 false) (Code.block 2 (Code.loop b5_L1))) (Code.seq (Code.region 19 o5_19 true) (Code.cond (Operand.tmp 105) (Code.seq (Code.region 20 o5_20 false) Code.ret) Code.skip))))) (Code.region 13 o5_13 false))
noncomputable def b5 : Code := (Code.seq (Code.region 0 o5_0 false) (Code.seq (Code.region 1 o5_1 false) (Code.seq (Code.seq (Code.region 2 o5_2 false) (Code.cond (Operand.tmp 30) (Code.seq (Code.region 3 o5_3 false) Code.ret) Code.skip)) (Code.seq (Code.region 4 o5_4 false) (Code.seq (Code.seq (Code.region 5 o5_5 false) (Code.cond (Operand.tmp 45) (Code.seq (Code.region 6 o5_6 false) Code.ret) Code.skip)) (Code.seq (Code.region 7 o5_7 false) (Code.seq (Code.seq (Code.region 8 o5_8 false) (Code.cond (Operand.tmp 52) (Code.seq (Code.region 9 o5_9 false) Code.ret) Code.skip)) (Code.seq (Code.region 10 o5_10 false) (Code.seq (Code.seq (Code.region 11 o5_11 false) (Code.block 0 (Code.loop b5_L2))) (Code.seq (Code.seq (Code.region 21 o5_21 false) (Code.block 4 (Code.loop b5_L0))) (Code.seq (Code.region 27 o5_27 false) Code.ret)))))))))))
theorem b5_eq : Tryd.f5.body = some b5 := by kernel_rfl
noncomputable def o6_0 : Array Oper := regOps Tryd.f6 0
noncomputable def l6_0 : List Rop := [⟨some 6, .assign (.const (.bool false)), none⟩]
theorem r6_0 : o6_0.toList.mapM (resolveG o6_0) = some l6_0 := by kernel_rfl
noncomputable def o6_1 : Array Oper := regOps Tryd.f6 1
noncomputable def l6_1 : List Rop := [⟨some 41, .call ⟨.value (.func 19), #[], #[]⟩, none⟩,
  ⟨some 7, .assign (.tmp 41), none⟩]
theorem r6_1 : o6_1.toList.mapM (resolveG o6_1) = some l6_1 := by kernel_rfl
noncomputable def o6_2 : Array Oper := regOps Tryd.f6 2
noncomputable def l6_2 : List Rop := [⟨some 42, .move (.tmp 0), none⟩,
  ⟨some 43, .call ⟨.builtin .len, #[.tmp 42], #[23]⟩, none⟩,
  ⟨some 44, .binOp .gtr 3 (.tmp 43) (.const (.int .i64 10)) 3, none⟩,
  ⟨some 45, .move (.tmp 44), none⟩,
  ⟨some 46, .move (.tmp 1), some (45, false)⟩,
  ⟨some 47, .call ⟨.builtin .len, #[.tmp 46], #[23]⟩, some (45, false)⟩,
  ⟨some 48, .binOp .gtr 3 (.tmp 47) (.const (.int .i64 10)) 3, some (45, false)⟩,
  ⟨some 49, .pick (.tmp 45) (.const (.bool true)) (.tmp 48), none⟩,
  ⟨some 50, .move (.tmp 49), none⟩,
  ⟨some 51, .move (.tmp 2), some (50, false)⟩,
  ⟨some 52, .call ⟨.builtin .len, #[.tmp 51], #[23]⟩, some (50, false)⟩,
  ⟨some 53, .binOp .gtr 3 (.tmp 52) (.const (.int .i64 10)) 3, some (50, false)⟩,
  ⟨some 54, .pick (.tmp 50) (.const (.bool true)) (.tmp 53), none⟩,
  ⟨some 55, .move (.tmp 54), none⟩,
  ⟨some 56, .move (.tmp 0), some (55, false)⟩,
  ⟨some 57, .call ⟨.value (.func 15), #[.tmp 56], #[23]⟩, some (55, false)⟩,
  ⟨some 58, .binOp .neq 25 (.tmp 57) (.const (.int .i64 0)) 25, some (55, false)⟩,
  ⟨some 59, .pick (.tmp 55) (.const (.bool true)) (.tmp 58), none⟩,
  ⟨some 60, .move (.tmp 59), none⟩,
  ⟨some 61, .move (.tmp 1), some (60, false)⟩,
  ⟨some 62, .call ⟨.value (.func 15), #[.tmp 61], #[23]⟩, some (60, false)⟩,
  ⟨some 63, .binOp .neq 25 (.tmp 62) (.const (.int .i64 0)) 25, some (60, false)⟩,
  ⟨some 64, .pick (.tmp 60) (.const (.bool true)) (.tmp 63), none⟩,
  ⟨some 65, .move (.tmp 64), none⟩,
  ⟨some 66, .move (.tmp 2), some (65, false)⟩,
  ⟨some 67, .call ⟨.value (.func 15), #[.tmp 66], #[23]⟩, some (65, false)⟩,
  ⟨some 68, .binOp .neq 25 (.tmp 67) (.const (.int .i64 0)) 25, some (65, false)⟩,
  ⟨some 69, .pick (.tmp 65) (.const (.bool true)) (.tmp 68), none⟩,
  ⟨some 70, .move (.tmp 69), none⟩,
  ⟨some 71, .move (.tmp 7), some (70, false)⟩,
  ⟨some 72, .unOp .not 4 (.tmp 71), some (70, false)⟩,
  ⟨some 73, .pick (.tmp 70) (.const (.bool true)) (.tmp 72), none⟩]
theorem r6_2 : o6_2.toList.mapM (resolveG o6_2) = some l6_2 := by kernel_rfl
noncomputable def o6_3 : Array Oper := regOps Tryd.f6 3
noncomputable def l6_3 : List Rop := [⟨some 74, .move (.tmp 7), none⟩,
  ⟨some 6, .assign (.tmp 74), none⟩]
theorem r6_3 : o6_3.toList.mapM (resolveG o6_3) = some l6_3 := by kernel_rfl
noncomputable def o6_4 : Array Oper := regOps Tryd.f6 4
noncomputable def l6_4 : List Rop := [⟨some 76, .move (.tmp 0), none⟩,
  ⟨some 77, .move (.tmp 1), none⟩,
  ⟨some 78, .call ⟨.value (.func 20), #[.tmp 76, .tmp 77], #[23, 23]⟩, none⟩,
  ⟨some 75, .move (.tmp 78), none⟩,
  ⟨some 79, .extract (.tmp 75) 0, none⟩,
  ⟨some 80, .extract (.tmp 75) 1, none⟩,
  ⟨some 8, .assign (.tmp 79), none⟩,
  ⟨some 9, .assign (.tmp 80), none⟩]
theorem r6_4 : o6_4.toList.mapM (resolveG o6_4) = some l6_4 := by kernel_rfl
noncomputable def o6_5 : Array Oper := regOps Tryd.f6 5
noncomputable def l6_5 : List Rop := [⟨some 82, .move (.tmp 1), none⟩,
  ⟨some 83, .move (.tmp 0), none⟩,
  ⟨some 84, .call ⟨.value (.func 20), #[.tmp 82, .tmp 83], #[23, 23]⟩, none⟩,
  ⟨some 81, .move (.tmp 84), none⟩,
  ⟨some 85, .extract (.tmp 81) 0, none⟩,
  ⟨some 86, .extract (.tmp 81) 1, none⟩,
  ⟨some 10, .assign (.tmp 85), none⟩,
  ⟨some 11, .assign (.tmp 86), none⟩]
theorem r6_5 : o6_5.toList.mapM (resolveG o6_5) = some l6_5 := by kernel_rfl
noncomputable def o6_6 : Array Oper := regOps Tryd.f6 6
noncomputable def l6_6 : List Rop := [⟨some 88, .move (.tmp 1), none⟩,
  ⟨some 89, .move (.tmp 2), none⟩,
  ⟨some 90, .call ⟨.value (.func 20), #[.tmp 88, .tmp 89], #[23, 23]⟩, none⟩,
  ⟨some 87, .move (.tmp 90), none⟩,
  ⟨some 91, .extract (.tmp 87) 0, none⟩,
  ⟨some 92, .extract (.tmp 87) 1, none⟩,
  ⟨some 12, .assign (.tmp 91), none⟩,
  ⟨some 13, .assign (.tmp 92), none⟩]
theorem r6_6 : o6_6.toList.mapM (resolveG o6_6) = some l6_6 := by kernel_rfl
noncomputable def o6_7 : Array Oper := regOps Tryd.f6 7
noncomputable def l6_7 : List Rop := [⟨some 94, .move (.tmp 8), none⟩,
  ⟨some 95, .move (.tmp 2), none⟩,
  ⟨some 96, .call ⟨.value (.func 20), #[.tmp 94, .tmp 95], #[23, 23]⟩, none⟩,
  ⟨some 93, .move (.tmp 96), none⟩,
  ⟨some 97, .extract (.tmp 93) 0, none⟩,
  ⟨some 98, .extract (.tmp 93) 1, none⟩,
  ⟨some 14, .assign (.tmp 97), none⟩,
  ⟨some 15, .assign (.tmp 98), none⟩]
theorem r6_7 : o6_7.toList.mapM (resolveG o6_7) = some l6_7 := by kernel_rfl
noncomputable def o6_8 : Array Oper := regOps Tryd.f6 8
noncomputable def l6_8 : List Rop := [⟨some 100, .move (.tmp 0), none⟩,
  ⟨some 101, .move (.tmp 12), none⟩,
  ⟨some 102, .call ⟨.value (.func 20), #[.tmp 100, .tmp 101], #[23, 23]⟩, none⟩,
  ⟨some 99, .move (.tmp 102), none⟩,
  ⟨some 103, .extract (.tmp 99) 0, none⟩,
  ⟨some 104, .extract (.tmp 99) 1, none⟩,
  ⟨some 16, .assign (.tmp 103), none⟩,
  ⟨some 17, .assign (.tmp 104), none⟩]
theorem r6_8 : o6_8.toList.mapM (resolveG o6_8) = some l6_8 := by kernel_rfl
noncomputable def o6_9 : Array Oper := regOps Tryd.f6 9
noncomputable def l6_9 : List Rop := [⟨some 106, .move (.tmp 0), none⟩,
  ⟨some 107, .move (.tmp 1), none⟩,
  ⟨some 108, .call ⟨.value (.func 21), #[.tmp 106, .tmp 107], #[23, 23]⟩, none⟩,
  ⟨some 105, .move (.tmp 108), none⟩,
  ⟨some 109, .extract (.tmp 105) 0, none⟩,
  ⟨some 110, .extract (.tmp 105) 1, none⟩,
  ⟨some 18, .assign (.tmp 109), none⟩,
  ⟨some 19, .assign (.tmp 110), none⟩]
theorem r6_9 : o6_9.toList.mapM (resolveG o6_9) = some l6_9 := by kernel_rfl
noncomputable def o6_10 : Array Oper := regOps Tryd.f6 10
noncomputable def l6_10 : List Rop := [⟨some 112, .move (.tmp 0), none⟩,
  ⟨some 113, .move (.tmp 2), none⟩,
  ⟨some 114, .call ⟨.value (.func 21), #[.tmp 112, .tmp 113], #[23, 23]⟩, none⟩,
  ⟨some 111, .move (.tmp 114), none⟩,
  ⟨some 115, .extract (.tmp 111) 0, none⟩,
  ⟨some 116, .extract (.tmp 111) 1, none⟩,
  ⟨some 20, .assign (.tmp 115), none⟩,
  ⟨some 21, .assign (.tmp 116), none⟩]
theorem r6_10 : o6_10.toList.mapM (resolveG o6_10) = some l6_10 := by kernel_rfl
noncomputable def o6_11 : Array Oper := regOps Tryd.f6 11
noncomputable def l6_11 : List Rop := [⟨some 118, .move (.tmp 0), none⟩,
  ⟨some 119, .move (.tmp 12), none⟩,
  ⟨some 120, .call ⟨.value (.func 21), #[.tmp 118, .tmp 119], #[23, 23]⟩, none⟩,
  ⟨some 117, .move (.tmp 120), none⟩,
  ⟨some 121, .extract (.tmp 117) 0, none⟩,
  ⟨some 122, .extract (.tmp 117) 1, none⟩,
  ⟨some 22, .assign (.tmp 121), none⟩,
  ⟨some 23, .assign (.tmp 122), none⟩]
theorem r6_11 : o6_11.toList.mapM (resolveG o6_11) = some l6_11 := by kernel_rfl
noncomputable def o6_12 : Array Oper := regOps Tryd.f6 12
noncomputable def l6_12 : List Rop := [⟨some 124, .move (.tmp 18), none⟩,
  ⟨some 125, .move (.tmp 20), none⟩,
  ⟨some 126, .call ⟨.value (.func 20), #[.tmp 124, .tmp 125], #[23, 23]⟩, none⟩,
  ⟨some 123, .move (.tmp 126), none⟩,
  ⟨some 127, .extract (.tmp 123) 0, none⟩,
  ⟨some 128, .extract (.tmp 123) 1, none⟩,
  ⟨some 24, .assign (.tmp 127), none⟩,
  ⟨some 25, .assign (.tmp 128), none⟩]
theorem r6_12 : o6_12.toList.mapM (resolveG o6_12) = some l6_12 := by kernel_rfl
noncomputable def o6_13 : Array Oper := regOps Tryd.f6 13
noncomputable def l6_13 : List Rop := [⟨some 130, .move (.tmp 0), none⟩,
  ⟨some 131, .move (.tmp 1), none⟩,
  ⟨some 132, .call ⟨.value (.func 22), #[.tmp 130, .tmp 131], #[23, 23]⟩, none⟩,
  ⟨some 129, .move (.tmp 132), none⟩,
  ⟨some 133, .extract (.tmp 129) 0, none⟩,
  ⟨some 134, .extract (.tmp 129) 1, none⟩,
  ⟨some 26, .assign (.tmp 133), none⟩,
  ⟨some 27, .assign (.tmp 134), none⟩]
theorem r6_13 : o6_13.toList.mapM (resolveG o6_13) = some l6_13 := by kernel_rfl
noncomputable def o6_14 : Array Oper := regOps Tryd.f6 14
noncomputable def l6_14 : List Rop := [⟨some 136, .move (.tmp 0), none⟩,
  ⟨some 137, .move (.tmp 18), none⟩,
  ⟨some 138, .call ⟨.value (.func 22), #[.tmp 136, .tmp 137], #[23, 23]⟩, none⟩,
  ⟨some 135, .move (.tmp 138), none⟩,
  ⟨some 139, .extract (.tmp 135) 0, none⟩,
  ⟨some 140, .extract (.tmp 135) 1, none⟩,
  ⟨some 28, .assign (.tmp 139), none⟩,
  ⟨some 29, .assign (.tmp 140), none⟩]
theorem r6_14 : o6_14.toList.mapM (resolveG o6_14) = some l6_14 := by kernel_rfl
noncomputable def o6_15 : Array Oper := regOps Tryd.f6 15
noncomputable def l6_15 : List Rop := [⟨some 142, .move (.tmp 26), none⟩,
  ⟨some 143, .move (.tmp 18), none⟩,
  ⟨some 144, .call ⟨.value (.func 20), #[.tmp 142, .tmp 143], #[23, 23]⟩, none⟩,
  ⟨some 141, .move (.tmp 144), none⟩,
  ⟨some 145, .extract (.tmp 141) 0, none⟩,
  ⟨some 146, .extract (.tmp 141) 1, none⟩,
  ⟨some 30, .assign (.tmp 145), none⟩,
  ⟨some 31, .assign (.tmp 146), none⟩]
theorem r6_15 : o6_15.toList.mapM (resolveG o6_15) = some l6_15 := by kernel_rfl
noncomputable def o6_16 : Array Oper := regOps Tryd.f6 16
noncomputable def l6_16 : List Rop := [⟨some 148, .move (.tmp 0), none⟩,
  ⟨some 149, .call ⟨.value (.func 12), #[.tmp 148], #[23]⟩, none⟩,
  ⟨some 147, .move (.tmp 149), none⟩,
  ⟨some 150, .extract (.tmp 147) 0, none⟩,
  ⟨some 151, .extract (.tmp 147) 1, none⟩,
  ⟨some 32, .assign (.tmp 150), none⟩,
  ⟨some 33, .assign (.tmp 151), none⟩]
theorem r6_16 : o6_16.toList.mapM (resolveG o6_16) = some l6_16 := by kernel_rfl
noncomputable def o6_17 : Array Oper := regOps Tryd.f6 17
noncomputable def l6_17 : List Rop := [⟨some 153, .move (.tmp 1), none⟩,
  ⟨some 154, .call ⟨.value (.func 12), #[.tmp 153], #[23]⟩, none⟩,
  ⟨some 152, .move (.tmp 154), none⟩,
  ⟨some 155, .extract (.tmp 152) 0, none⟩,
  ⟨some 156, .extract (.tmp 152) 1, none⟩,
  ⟨some 34, .assign (.tmp 155), none⟩,
  ⟨some 35, .assign (.tmp 156), none⟩]
theorem r6_17 : o6_17.toList.mapM (resolveG o6_17) = some l6_17 := by kernel_rfl
noncomputable def o6_18 : Array Oper := regOps Tryd.f6 18
noncomputable def l6_18 : List Rop := [⟨some 158, .move (.tmp 8), none⟩,
  ⟨some 159, .call ⟨.value (.func 12), #[.tmp 158], #[23]⟩, none⟩,
  ⟨some 157, .move (.tmp 159), none⟩,
  ⟨some 160, .extract (.tmp 157) 0, none⟩,
  ⟨some 161, .extract (.tmp 157) 1, none⟩,
  ⟨some 36, .assign (.tmp 160), none⟩,
  ⟨some 37, .assign (.tmp 161), none⟩]
theorem r6_18 : o6_18.toList.mapM (resolveG o6_18) = some l6_18 := by kernel_rfl
noncomputable def o6_19 : Array Oper := regOps Tryd.f6 19
noncomputable def l6_19 : List Rop := [⟨some 163, .move (.tmp 18), none⟩,
  ⟨some 164, .call ⟨.value (.func 12), #[.tmp 163], #[23]⟩, none⟩,
  ⟨some 162, .move (.tmp 164), none⟩,
  ⟨some 165, .extract (.tmp 162) 0, none⟩,
  ⟨some 166, .extract (.tmp 162) 1, none⟩,
  ⟨some 38, .assign (.tmp 165), none⟩,
  ⟨some 39, .assign (.tmp 166), none⟩]
theorem r6_19 : o6_19.toList.mapM (resolveG o6_19) = some l6_19 := by kernel_rfl
noncomputable def o6_20 : Array Oper := regOps Tryd.f6 20
noncomputable def l6_20 : List Rop := [⟨some 167, .move (.tmp 8), none⟩,
  ⟨some 168, .move (.tmp 10), none⟩,
  ⟨some 169, .call ⟨.value (.func 17), #[.tmp 167, .tmp 168], #[23, 23]⟩, none⟩,
  ⟨some 170, .move (.tmp 169), none⟩,
  ⟨some 171, .move (.tmp 14), some (170, true)⟩,
  ⟨some 172, .move (.tmp 16), some (170, true)⟩,
  ⟨some 173, .call ⟨.value (.func 17), #[.tmp 171, .tmp 172], #[23, 23]⟩, some (170, true)⟩,
  ⟨some 174, .pick (.tmp 170) (.tmp 173) (.const (.bool false)), none⟩,
  ⟨some 175, .move (.tmp 174), none⟩,
  ⟨some 176, .move (.tmp 22), some (175, true)⟩,
  ⟨some 177, .move (.tmp 24), some (175, true)⟩,
  ⟨some 178, .call ⟨.value (.func 17), #[.tmp 176, .tmp 177], #[23, 23]⟩, some (175, true)⟩,
  ⟨some 179, .pick (.tmp 175) (.tmp 178) (.const (.bool false)), none⟩,
  ⟨some 180, .move (.tmp 179), none⟩,
  ⟨some 181, .move (.tmp 26), some (180, true)⟩,
  ⟨some 182, .move (.tmp 28), some (180, true)⟩,
  ⟨some 183, .call ⟨.value (.func 17), #[.tmp 181, .tmp 182], #[23, 23]⟩, some (180, true)⟩,
  ⟨some 184, .pick (.tmp 180) (.tmp 183) (.const (.bool false)), none⟩,
  ⟨some 185, .move (.tmp 184), none⟩,
  ⟨some 186, .move (.tmp 30), some (185, true)⟩,
  ⟨some 187, .move (.tmp 0), some (185, true)⟩,
  ⟨some 188, .call ⟨.value (.func 17), #[.tmp 186, .tmp 187], #[23, 23]⟩, some (185, true)⟩,
  ⟨some 189, .pick (.tmp 185) (.tmp 188) (.const (.bool false)), none⟩,
  ⟨some 40, .assign (.tmp 189), none⟩]
theorem r6_20 : o6_20.toList.mapM (resolveG o6_20) = some l6_20 := by kernel_rfl
noncomputable def o6_21 : Array Oper := regOps Tryd.f6 21
noncomputable def l6_21 : List Rop := [⟨some 190, .move (.tmp 7), none⟩,
  ⟨some 191, .move (.tmp 190), none⟩,
  ⟨some 192, .move (.tmp 40), some (191, true)⟩,
  ⟨some 193, .pick (.tmp 191) (.tmp 192) (.const (.bool false)), none⟩,
  ⟨some 194, .move (.tmp 193), none⟩,
  ⟨some 195, .move (.tmp 32), some (194, true)⟩,
  ⟨some 196, .move (.tmp 34), some (194, true)⟩,
  ⟨some 197, .binOp .add 3 (.tmp 195) (.tmp 196) 3, some (194, true)⟩,
  ⟨some 198, .move (.tmp 36), some (194, true)⟩,
  ⟨some 199, .move (.tmp 38), some (194, true)⟩,
  ⟨some 200, .binOp .add 3 (.tmp 198) (.tmp 199) 3, some (194, true)⟩,
  ⟨some 201, .binOp .eql 3 (.tmp 197) (.tmp 200) 3, some (194, true)⟩,
  ⟨some 202, .pick (.tmp 194) (.tmp 201) (.const (.bool false)), none⟩,
  ⟨some 6, .assign (.tmp 202), none⟩]
theorem r6_21 : o6_21.toList.mapM (resolveG o6_21) = some l6_21 := by kernel_rfl
noncomputable def b6 : Code := (Code.seq (Code.region 0 o6_0 false) (Code.seq (Code.region 1 o6_1 false) (Code.seq (Code.seq (Code.region 2 o6_2 false) (Code.cond (Operand.tmp 73) (Code.seq (Code.region 3 o6_3 false) Code.ret) Code.skip)) (Code.seq (Code.region 4 o6_4 false) (Code.seq (Code.region 5 o6_5 false) (Code.seq (Code.region 6 o6_6 false) (Code.seq (Code.region 7 o6_7 false) (Code.seq (Code.region 8 o6_8 false) (Code.seq (Code.region 9 o6_9 false) (Code.seq (Code.region 10 o6_10 false) (Code.seq (Code.region 11 o6_11 false) (Code.seq (Code.region 12 o6_12 false) (Code.seq (Code.region 13 o6_13 false) (Code.seq (Code.region 14 o6_14 false) (Code.seq (Code.region 15 o6_15 false) (Code.seq (Code.region 16 o6_16 false) (Code.seq (Code.region 17 o6_17 false) (Code.seq (Code.region 18 o6_18 false) (Code.seq (Code.region 19 o6_19 false) (Code.seq (Code.region 20 o6_20 false) (Code.seq (Code.region 21 o6_21 false) Code.ret)))))))))))))))))))))
theorem b6_eq : Tryd.f6.body = some b6 := by kernel_rfl
noncomputable def o9_0 : Array Oper := regOps Tryd.f9 0
noncomputable def l9_0 : List Rop := [⟨some 2, .assign (.const (.slice none 0 0)), none⟩,
  ⟨some 3, .assign (.const (.int .i64 0)), none⟩]
theorem r9_0 : o9_0.toList.mapM (resolveG o9_0) = some l9_0 := by kernel_rfl
noncomputable def o9_1 : Array Oper := regOps Tryd.f9 1
noncomputable def l9_1 : List Rop := [⟨some 4, .move (.tmp 0), none⟩,
  ⟨some 5, .call ⟨.value (.func 27), #[.tmp 4], #[23]⟩, none⟩,
  ⟨some 6, .unOp .not 4 (.tmp 5), none⟩]
theorem r9_1 : o9_1.toList.mapM (resolveG o9_1) = some l9_1 := by kernel_rfl
noncomputable def o9_2 : Array Oper := regOps Tryd.f9 2
noncomputable def l9_2 : List Rop := [⟨some 2, .assign (.const (.slice none 0 0)), none⟩,
  ⟨some 3, .assign (.const (.int .i64 8)), none⟩]
theorem r9_2 : o9_2.toList.mapM (resolveG o9_2) = some l9_2 := by kernel_rfl
noncomputable def o9_3 : Array Oper := regOps Tryd.f9 3
noncomputable def l9_3 : List Rop := [⟨some 7, .move (.tmp 0), none⟩,
  ⟨some 8, .call ⟨.value (.func 28), #[.tmp 7], #[23]⟩, none⟩,
  ⟨some 2, .assign (.tmp 8), none⟩,
  ⟨some 3, .assign (.const (.int .i64 0)), none⟩]
theorem r9_3 : o9_3.toList.mapM (resolveG o9_3) = some l9_3 := by kernel_rfl
noncomputable def b9 : Code := (Code.seq (Code.region 0 o9_0 false) (Code.seq (Code.seq (Code.region 1 o9_1 false) (Code.cond (Operand.tmp 6) (Code.seq (Code.region 2 o9_2 false) Code.ret) Code.skip)) (Code.seq (Code.region 3 o9_3 false) Code.ret)))
theorem b9_eq : Tryd.f9.body = some b9 := by kernel_rfl
noncomputable def o10_0 : Array Oper := regOps Tryd.f10 0
noncomputable def l10_0 : List Rop := [⟨some 4, .assign (.const (.bool false)), none⟩,
  ⟨some 5, .assign (.const (.int .i64 0)), none⟩]
theorem r10_0 : o10_0.toList.mapM (resolveG o10_0) = some l10_0 := by kernel_rfl
noncomputable def o10_1 : Array Oper := regOps Tryd.f10 1
noncomputable def l10_1 : List Rop := [⟨some 9, .move (.tmp 0), none⟩,
  ⟨some 10, .call ⟨.value (.func 15), #[.tmp 9], #[23]⟩, none⟩,
  ⟨some 6, .assign (.tmp 10), none⟩]
theorem r10_1 : o10_1.toList.mapM (resolveG o10_1) = some l10_1 := by kernel_rfl
noncomputable def o10_2 : Array Oper := regOps Tryd.f10 2
noncomputable def l10_2 : List Rop := [⟨some 11, .move (.tmp 6), none⟩,
  ⟨some 12, .binOp .neq 25 (.tmp 11) (.const (.int .i64 0)) 25, none⟩]
theorem r10_2 : o10_2.toList.mapM (resolveG o10_2) = some l10_2 := by kernel_rfl
noncomputable def o10_3 : Array Oper := regOps Tryd.f10 3
noncomputable def l10_3 : List Rop := [⟨some 13, .move (.tmp 6), none⟩,
  ⟨some 4, .assign (.const (.bool false)), none⟩,
  ⟨some 5, .assign (.tmp 13), none⟩]
theorem r10_3 : o10_3.toList.mapM (resolveG o10_3) = some l10_3 := by kernel_rfl
noncomputable def o10_4 : Array Oper := regOps Tryd.f10 4
noncomputable def l10_4 : List Rop := [⟨some 14, .move (.tmp 1), none⟩,
  ⟨some 15, .call ⟨.value (.func 29), #[.tmp 14], #[3]⟩, none⟩,
  ⟨some 16, .unOp .not 4 (.tmp 15), none⟩]
theorem r10_4 : o10_4.toList.mapM (resolveG o10_4) = some l10_4 := by kernel_rfl
noncomputable def o10_5 : Array Oper := regOps Tryd.f10 5
noncomputable def l10_5 : List Rop := [⟨some 4, .assign (.const (.bool false)), none⟩,
  ⟨some 5, .assign (.const (.int .i64 2)), none⟩]
theorem r10_5 : o10_5.toList.mapM (resolveG o10_5) = some l10_5 := by kernel_rfl
noncomputable def o10_6 : Array Oper := regOps Tryd.f10 6
noncomputable def l10_6 : List Rop := [⟨some 18, .move (.tmp 0), none⟩,
  ⟨some 19, .move (.tmp 1), none⟩,
  ⟨some 20, .binOp .quo 3 (.tmp 19) (.const (.int .i64 64)) 3, none⟩,
  ⟨some 21, .call ⟨.value (.func 30), #[.tmp 18, .tmp 20, .func 31], #[23, 3, 62]⟩, none⟩,
  ⟨some 17, .move (.tmp 21), none⟩,
  ⟨some 22, .extract (.tmp 17) 0, none⟩,
  ⟨some 23, .extract (.tmp 17) 1, none⟩,
  ⟨some 7, .assign (.tmp 22), none⟩,
  ⟨some 8, .assign (.tmp 23), none⟩]
theorem r10_6 : o10_6.toList.mapM (resolveG o10_6) = some l10_6 := by kernel_rfl
noncomputable def o10_7 : Array Oper := regOps Tryd.f10 7
noncomputable def l10_7 : List Rop := [⟨some 24, .move (.tmp 8), none⟩,
  ⟨some 25, .move (.tmp 24), none⟩,
  ⟨some 26, .move (.tmp 0), some (25, true)⟩,
  ⟨some 27, .move (.tmp 7), some (25, true)⟩,
  ⟨some 28, .indexAddr 23 (.tmp 26) (.tmp 27), some (25, true)⟩,
  ⟨some 29, .fieldAddr 52 (.tmp 28) 1, some (25, true)⟩,
  ⟨some 30, .load 50 (.tmp 29), some (25, true)⟩,
  ⟨some 31, .move (.tmp 1), some (25, true)⟩,
  ⟨some 32, .binOp .rem 3 (.tmp 31) (.const (.int .i64 64)) 3, some (25, true)⟩,
  ⟨some 33, .binOp .shr 50 (.tmp 30) (.tmp 32) 3, some (25, true)⟩,
  ⟨some 34, .binOp .and 50 (.tmp 33) (.const (.int .u64 1)) 50, some (25, true)⟩,
  ⟨some 35, .binOp .eql 50 (.tmp 34) (.const (.int .u64 1)) 50, some (25, true)⟩,
  ⟨some 36, .pick (.tmp 25) (.tmp 35) (.const (.bool false)), none⟩,
  ⟨some 4, .assign (.tmp 36), none⟩,
  ⟨some 5, .assign (.const (.int .i64 0)), none⟩]
theorem r10_7 : o10_7.toList.mapM (resolveG o10_7) = some l10_7 := by kernel_rfl
noncomputable def b10 : Code := (Code.seq (Code.region 0 o10_0 false) (Code.seq (Code.seq (Code.region 1 o10_1 false) (Code.seq (Code.region 2 o10_2 false) (Code.cond (Operand.tmp 12) (Code.seq (Code.region 3 o10_3 false) Code.ret) Code.skip))) (Code.seq (Code.seq (Code.region 4 o10_4 false) (Code.cond (Operand.tmp 16) (Code.seq (Code.region 5 o10_5 false) Code.ret) Code.skip)) (Code.seq (Code.region 6 o10_6 false) (Code.seq (Code.region 7 o10_7 false) Code.ret)))))
theorem b10_eq : Tryd.f10.body = some b10 := by kernel_rfl
noncomputable def o11_0 : Array Oper := regOps Tryd.f11 0
noncomputable def l11_0 : List Rop := [⟨some 4, .assign (.const (.bool false)), none⟩,
  ⟨some 5, .assign (.const (.int .i64 0)), none⟩]
theorem r11_0 : o11_0.toList.mapM (resolveG o11_0) = some l11_0 := by kernel_rfl
noncomputable def o11_1 : Array Oper := regOps Tryd.f11 1
noncomputable def l11_1 : List Rop := [⟨some 6, .move (.tmp 0), none⟩,
  ⟨some 7, .call ⟨.value (.func 27), #[.tmp 6], #[23]⟩, none⟩,
  ⟨some 8, .unOp .not 4 (.tmp 7), none⟩]
theorem r11_1 : o11_1.toList.mapM (resolveG o11_1) = some l11_1 := by kernel_rfl
noncomputable def o11_2 : Array Oper := regOps Tryd.f11 2
noncomputable def l11_2 : List Rop := [⟨some 4, .assign (.const (.bool false)), none⟩,
  ⟨some 5, .assign (.const (.int .i64 8)), none⟩]
theorem r11_2 : o11_2.toList.mapM (resolveG o11_2) = some l11_2 := by kernel_rfl
noncomputable def o11_3 : Array Oper := regOps Tryd.f11 3
noncomputable def l11_3 : List Rop := [⟨some 9, .move (.tmp 1), none⟩,
  ⟨some 10, .binOp .lss 3 (.tmp 9) (.const (.int .i64 0)) 3, none⟩,
  ⟨some 11, .move (.tmp 10), none⟩,
  ⟨some 12, .move (.tmp 1), some (11, false)⟩,
  ⟨some 13, .binOp .geq 3 (.tmp 12) (.const (.int .i64 1048576)) 3, some (11, false)⟩,
  ⟨some 14, .pick (.tmp 11) (.const (.bool true)) (.tmp 13), none⟩]
theorem r11_3 : o11_3.toList.mapM (resolveG o11_3) = some l11_3 := by kernel_rfl
noncomputable def o11_4 : Array Oper := regOps Tryd.f11 4
noncomputable def l11_4 : List Rop := [⟨some 4, .assign (.const (.bool false)), none⟩,
  ⟨some 5, .assign (.const (.int .i64 2)), none⟩]
theorem r11_4 : o11_4.toList.mapM (resolveG o11_4) = some l11_4 := by kernel_rfl
noncomputable def o11_5 : Array Oper := regOps Tryd.f11 5
noncomputable def l11_5 : List Rop := [⟨some 15, .move (.tmp 0), none⟩,
  ⟨some 16, .move (.tmp 1), none⟩,
  ⟨some 17, .call ⟨.value (.func 32), #[.tmp 15, .tmp 16], #[23, 3]⟩, none⟩,
  ⟨some 4, .assign (.tmp 17), none⟩,
  ⟨some 5, .assign (.const (.int .i64 0)), none⟩]
theorem r11_5 : o11_5.toList.mapM (resolveG o11_5) = some l11_5 := by kernel_rfl
noncomputable def b11 : Code := (Code.seq (Code.region 0 o11_0 false) (Code.seq (Code.seq (Code.region 1 o11_1 false) (Code.cond (Operand.tmp 8) (Code.seq (Code.region 2 o11_2 false) Code.ret) Code.skip)) (Code.seq (Code.seq (Code.region 3 o11_3 false) (Code.cond (Operand.tmp 14) (Code.seq (Code.region 4 o11_4 false) Code.ret) Code.skip)) (Code.seq (Code.region 5 o11_5 false) Code.ret))))
theorem b11_eq : Tryd.f11.body = some b11 := by kernel_rfl
noncomputable def o12_0 : Array Oper := regOps Tryd.f12 0
noncomputable def l12_0 : List Rop := [⟨some 2, .assign (.const (.int .i64 0)), none⟩,
  ⟨some 3, .assign (.const (.int .i64 0)), none⟩]
theorem r12_0 : o12_0.toList.mapM (resolveG o12_0) = some l12_0 := by kernel_rfl
noncomputable def o12_1 : Array Oper := regOps Tryd.f12 1
noncomputable def l12_1 : List Rop := [⟨some 7, .move (.tmp 0), none⟩,
  ⟨some 8, .call ⟨.value (.func 15), #[.tmp 7], #[23]⟩, none⟩,
  ⟨some 4, .assign (.tmp 8), none⟩]
theorem r12_1 : o12_1.toList.mapM (resolveG o12_1) = some l12_1 := by kernel_rfl
noncomputable def o12_2 : Array Oper := regOps Tryd.f12 2
noncomputable def l12_2 : List Rop := [⟨some 9, .move (.tmp 4), none⟩,
  ⟨some 10, .binOp .neq 25 (.tmp 9) (.const (.int .i64 0)) 25, none⟩]
theorem r12_2 : o12_2.toList.mapM (resolveG o12_2) = some l12_2 := by kernel_rfl
noncomputable def o12_3 : Array Oper := regOps Tryd.f12 3
noncomputable def l12_3 : List Rop := [⟨some 11, .move (.tmp 4), none⟩,
  ⟨some 2, .assign (.const (.int .i64 0)), none⟩,
  ⟨some 3, .assign (.tmp 11), none⟩]
theorem r12_3 : o12_3.toList.mapM (resolveG o12_3) = some l12_3 := by kernel_rfl
noncomputable def o12_4 : Array Oper := regOps Tryd.f12 4
noncomputable def l12_4 : List Rop := [⟨some 12, .move (.tmp 0), none⟩,
  ⟨some 13, .call ⟨.builtin .len, #[.tmp 12], #[23]⟩, none⟩,
  ⟨some 14, .move (.const (.int .i64 0)), none⟩]
theorem r12_4 : o12_4.toList.mapM (resolveG o12_4) = some l12_4 := by kernel_rfl
noncomputable def o12_5 : Array Oper := regOps Tryd.f12 5
noncomputable def l12_5 : List Rop := [⟨some 15, .binOp .lss 3 (.tmp 14) (.tmp 13) 3, none⟩]
theorem r12_5 : o12_5.toList.mapM (resolveG o12_5) = some l12_5 := by kernel_rfl
noncomputable def o12_6 : Array Oper := regOps Tryd.f12 6
noncomputable def l12_6 : List Rop := [⟨some 16, .indexAddr 23 (.tmp 12) (.tmp 14), none⟩,
  ⟨some 17, .load 52 (.tmp 16), none⟩,
  ⟨some 6, .alloc 52, none⟩,
  ⟨none, .store 52 (.tmp 6) (.tmp 17), none⟩]
theorem r12_6 : o12_6.toList.mapM (resolveG o12_6) = some l12_6 := by kernel_rfl
noncomputable def o12_7 : Array Oper := regOps Tryd.f12 7
noncomputable def l12_7 : List Rop := [⟨some 18, .move (.tmp 2), none⟩,
  ⟨some 19, .fieldAddr 52 (.tmp 6) 1, none⟩,
  ⟨some 20, .load 50 (.tmp 19), none⟩,
  ⟨some 21, .call ⟨.value (.func 33), #[.tmp 20], #[50]⟩, none⟩,
  ⟨some 22, .binOp .add 3 (.tmp 18) (.tmp 21) 3, none⟩,
  ⟨some 2, .assign (.tmp 22), none⟩]
theorem r12_7 : o12_7.toList.mapM (resolveG o12_7) = some l12_7 := by kernel_rfl
noncomputable def o12_8 : Array Oper := regOps Tryd.f12 8
noncomputable def l12_8 : List Rop := [⟨some 23, .binOp .add 3 (.tmp 14) (.const (.int .i64 1)) 3, none⟩,
  ⟨some 14, .move (.tmp 23), none⟩]
theorem r12_8 : o12_8.toList.mapM (resolveG o12_8) = some l12_8 := by kernel_rfl
noncomputable def o12_9 : Array Oper := regOps Tryd.f12 9
noncomputable def l12_9 : List Rop := [⟨some 24, .move (.tmp 2), none⟩,
  ⟨some 2, .assign (.tmp 24), none⟩,
  ⟨some 3, .assign (.const (.int .i64 0)), none⟩]
theorem r12_9 : o12_9.toList.mapM (resolveG o12_9) = some l12_9 := by kernel_rfl
noncomputable def b12_L0 : Code := Code.seq (Code.region 5 o12_5 false) (Code.seq (Code.cond (Operand.tmp 15) Code.skip (Code.exit 0)) (Code.seq (Code.block 1 (Code.seq (Code.region 6 o12_6 false) (Code.region 7 o12_7 false))) (Code.region 8 o12_8 false)))
noncomputable def b12 : Code := (Code.seq (Code.region 0 o12_0 false) (Code.seq (Code.seq (Code.region 1 o12_1 false) (Code.seq (Code.region 2 o12_2 false) (Code.cond (Operand.tmp 10) (Code.seq (Code.region 3 o12_3 false) Code.ret) Code.skip))) (Code.seq (Code.seq (Code.region 4 o12_4 false) (Code.block 0 (Code.loop b12_L0))) (Code.seq (Code.region 9 o12_9 false) Code.ret))))
theorem b12_eq : Tryd.f12.body = some b12 := by kernel_rfl
noncomputable def o13_0 : Array Oper := regOps Tryd.f13 0
noncomputable def l13_0 : List Rop := [⟨some 2, .assign (.const (.int .i64 0)), none⟩,
  ⟨some 3, .assign (.const (.int .i64 0)), none⟩]
theorem r13_0 : o13_0.toList.mapM (resolveG o13_0) = some l13_0 := by kernel_rfl
noncomputable def o13_1 : Array Oper := regOps Tryd.f13 1
noncomputable def l13_1 : List Rop := [⟨some 4, .move (.tmp 0), none⟩,
  ⟨some 5, .call ⟨.value (.func 27), #[.tmp 4], #[23]⟩, none⟩,
  ⟨some 6, .unOp .not 4 (.tmp 5), none⟩]
theorem r13_1 : o13_1.toList.mapM (resolveG o13_1) = some l13_1 := by kernel_rfl
noncomputable def o13_2 : Array Oper := regOps Tryd.f13 2
noncomputable def l13_2 : List Rop := [⟨some 2, .assign (.const (.int .i64 0)), none⟩,
  ⟨some 3, .assign (.const (.int .i64 8)), none⟩]
theorem r13_2 : o13_2.toList.mapM (resolveG o13_2) = some l13_2 := by kernel_rfl
noncomputable def o13_3 : Array Oper := regOps Tryd.f13 3
noncomputable def l13_3 : List Rop := [⟨some 7, .move (.tmp 0), none⟩,
  ⟨some 8, .call ⟨.value (.func 28), #[.tmp 7], #[23]⟩, none⟩,
  ⟨some 9, .call ⟨.builtin .len, #[.tmp 8], #[24]⟩, none⟩,
  ⟨some 2, .assign (.tmp 9), none⟩,
  ⟨some 3, .assign (.const (.int .i64 0)), none⟩]
theorem r13_3 : o13_3.toList.mapM (resolveG o13_3) = some l13_3 := by kernel_rfl
noncomputable def b13 : Code := (Code.seq (Code.region 0 o13_0 false) (Code.seq (Code.seq (Code.region 1 o13_1 false) (Code.cond (Operand.tmp 6) (Code.seq (Code.region 2 o13_2 false) Code.ret) Code.skip)) (Code.seq (Code.region 3 o13_3 false) Code.ret)))
theorem b13_eq : Tryd.f13.body = some b13 := by kernel_rfl
noncomputable def o14_0 : Array Oper := regOps Tryd.f14 0
noncomputable def l14_0 : List Rop := [⟨some 4, .assign (.const (.bool false)), none⟩]
theorem r14_0 : o14_0.toList.mapM (resolveG o14_0) = some l14_0 := by kernel_rfl
noncomputable def o14_1 : Array Oper := regOps Tryd.f14 1
noncomputable def l14_1 : List Rop := [⟨some 6, .move (.tmp 0), none⟩,
  ⟨some 7, .call ⟨.builtin .len, #[.tmp 6], #[24]⟩, none⟩,
  ⟨some 8, .move (.tmp 1), none⟩,
  ⟨some 9, .call ⟨.builtin .len, #[.tmp 8], #[24]⟩, none⟩,
  ⟨some 10, .binOp .neq 3 (.tmp 7) (.tmp 9) 3, none⟩]
theorem r14_1 : o14_1.toList.mapM (resolveG o14_1) = some l14_1 := by kernel_rfl
noncomputable def o14_2 : Array Oper := regOps Tryd.f14 2
noncomputable def l14_2 : List Rop := [⟨some 4, .assign (.const (.bool false)), none⟩]
theorem r14_2 : o14_2.toList.mapM (resolveG o14_2) = some l14_2 := by kernel_rfl
noncomputable def o14_3 : Array Oper := regOps Tryd.f14 3
noncomputable def l14_3 : List Rop := [⟨some 5, .assign (.const (.int .i64 0)), none⟩]
theorem r14_3 : o14_3.toList.mapM (resolveG o14_3) = some l14_3 := by kernel_rfl
noncomputable def o14_4 : Array Oper := regOps Tryd.f14 4
noncomputable def l14_4 : List Rop := [⟨some 11, .move (.tmp 5), none⟩,
  ⟨some 12, .move (.tmp 0), none⟩,
  ⟨some 13, .call ⟨.builtin .len, #[.tmp 12], #[24]⟩, none⟩,
  ⟨some 14, .binOp .lss 3 (.tmp 11) (.tmp 13) 3, none⟩]
theorem r14_4 : o14_4.toList.mapM (resolveG o14_4) = some l14_4 := by kernel_rfl
noncomputable def o14_6 : Array Oper := regOps Tryd.f14 6
noncomputable def l14_6 : List Rop := [⟨some 17, .move (.tmp 0), none⟩,
  ⟨some 18, .move (.tmp 5), none⟩,
  ⟨some 19, .indexAddr 24 (.tmp 17) (.tmp 18), none⟩,
  ⟨some 20, .load 3 (.tmp 19), none⟩,
  ⟨some 21, .move (.tmp 1), none⟩,
  ⟨some 22, .move (.tmp 5), none⟩,
  ⟨some 23, .indexAddr 24 (.tmp 21) (.tmp 22), none⟩,
  ⟨some 24, .load 3 (.tmp 23), none⟩,
  ⟨some 25, .binOp .neq 3 (.tmp 20) (.tmp 24) 3, none⟩]
theorem r14_6 : o14_6.toList.mapM (resolveG o14_6) = some l14_6 := by kernel_rfl
noncomputable def o14_7 : Array Oper := regOps Tryd.f14 7
noncomputable def l14_7 : List Rop := [⟨some 4, .assign (.const (.bool false)), none⟩]
theorem r14_7 : o14_7.toList.mapM (resolveG o14_7) = some l14_7 := by kernel_rfl
noncomputable def o14_5 : Array Oper := regOps Tryd.f14 5
noncomputable def l14_5 : List Rop := [⟨some 15, .move (.tmp 5), none⟩,
  ⟨some 16, .binOp .add 3 (.tmp 15) (.const (.int .i64 1)) 3, none⟩,
  ⟨some 5, .assign (.tmp 16), none⟩]
theorem r14_5 : o14_5.toList.mapM (resolveG o14_5) = some l14_5 := by kernel_rfl
noncomputable def o14_8 : Array Oper := regOps Tryd.f14 8
noncomputable def l14_8 : List Rop := [⟨some 4, .assign (.const (.bool true)), none⟩]
theorem r14_8 : o14_8.toList.mapM (resolveG o14_8) = some l14_8 := by kernel_rfl
noncomputable def b14_L0 : Code := Code.seq (Code.seq (Code.region 4 o14_4 false) (Code.cond (Operand.tmp 14) Code.skip (Code.exit 0))) (Code.seq (Code.block 1 (Code.seq (Code.region 6 o14_6 true) (Code.cond (Operand.tmp 25) (Code.seq (Code.region 7 o14_7 false) Code.ret) Code.skip))) (Code.region 5 o14_5 false))
noncomputable def b14 : Code := (Code.seq (Code.region 0 o14_0 false) (Code.seq (Code.seq (Code.region 1 o14_1 false) (Code.cond (Operand.tmp 10) (Code.seq (Code.region 2 o14_2 false) Code.ret) Code.skip)) (Code.seq (Code.seq (Code.region 3 o14_3 false) (Code.block 0 (Code.loop b14_L0))) (Code.seq (Code.region 8 o14_8 false) Code.ret))))
theorem b14_eq : Tryd.f14.body = some b14 := by kernel_rfl
noncomputable def o16_0 : Array Oper := regOps Tryd.f16 0
noncomputable def l16_0 : List Rop := [⟨some 2, .assign (.const (.int .i64 0)), none⟩]
theorem r16_0 : o16_0.toList.mapM (resolveG o16_0) = some l16_0 := by kernel_rfl
noncomputable def o16_1 : Array Oper := regOps Tryd.f16 1
noncomputable def l16_1 : List Rop := [⟨some 3, .move (.tmp 0), none⟩,
  ⟨some 4, .call ⟨.value (.func 27), #[.tmp 3], #[23]⟩, none⟩,
  ⟨some 5, .unOp .not 4 (.tmp 4), none⟩]
theorem r16_1 : o16_1.toList.mapM (resolveG o16_1) = some l16_1 := by kernel_rfl
noncomputable def o16_2 : Array Oper := regOps Tryd.f16 2
noncomputable def l16_2 : List Rop := [⟨some 2, .assign (.const (.int .i64 8)), none⟩]
theorem r16_2 : o16_2.toList.mapM (resolveG o16_2) = some l16_2 := by kernel_rfl
noncomputable def o16_3 : Array Oper := regOps Tryd.f16 3
noncomputable def l16_3 : List Rop := [⟨some 2, .assign (.const (.int .i64 0)), none⟩]
theorem r16_3 : o16_3.toList.mapM (resolveG o16_3) = some l16_3 := by kernel_rfl
noncomputable def b16 : Code := (Code.seq (Code.region 0 o16_0 false) (Code.seq (Code.seq (Code.region 1 o16_1 false) (Code.cond (Operand.tmp 5) (Code.seq (Code.region 2 o16_2 false) Code.ret) Code.skip)) (Code.seq (Code.region 3 o16_3 false) Code.ret)))
theorem b16_eq : Tryd.f16.body = some b16 := by kernel_rfl
noncomputable def o17_0 : Array Oper := regOps Tryd.f17 0
noncomputable def l17_0 : List Rop := [⟨some 4, .assign (.const (.bool false)), none⟩]
theorem r17_0 : o17_0.toList.mapM (resolveG o17_0) = some l17_0 := by kernel_rfl
noncomputable def o17_1 : Array Oper := regOps Tryd.f17 1
noncomputable def l17_1 : List Rop := [⟨some 5, .move (.tmp 0), none⟩,
  ⟨some 6, .move (.tmp 1), none⟩,
  ⟨some 7, .call ⟨.value (.func 34), #[.tmp 5, .tmp 6], #[23, 23]⟩, none⟩,
  ⟨some 4, .assign (.tmp 7), none⟩]
theorem r17_1 : o17_1.toList.mapM (resolveG o17_1) = some l17_1 := by kernel_rfl
noncomputable def b17 : Code := (Code.seq (Code.region 0 o17_0 false) (Code.seq (Code.region 1 o17_1 false) Code.ret))
theorem b17_eq : Tryd.f17.body = some b17 := by kernel_rfl
noncomputable def o18_0 : Array Oper := regOps Tryd.f18 0
noncomputable def l18_0 : List Rop := [⟨some 4, .assign (.const (.bool false)), none⟩]
theorem r18_0 : o18_0.toList.mapM (resolveG o18_0) = some l18_0 := by kernel_rfl
noncomputable def o18_1 : Array Oper := regOps Tryd.f18 1
noncomputable def l18_1 : List Rop := [⟨some 6, .move (.tmp 0), none⟩,
  ⟨some 7, .call ⟨.builtin .len, #[.tmp 6], #[23]⟩, none⟩,
  ⟨some 8, .move (.tmp 1), none⟩,
  ⟨some 9, .call ⟨.builtin .len, #[.tmp 8], #[23]⟩, none⟩,
  ⟨some 10, .binOp .neq 3 (.tmp 7) (.tmp 9) 3, none⟩]
theorem r18_1 : o18_1.toList.mapM (resolveG o18_1) = some l18_1 := by kernel_rfl
noncomputable def o18_2 : Array Oper := regOps Tryd.f18 2
noncomputable def l18_2 : List Rop := [⟨some 4, .assign (.const (.bool false)), none⟩]
theorem r18_2 : o18_2.toList.mapM (resolveG o18_2) = some l18_2 := by kernel_rfl
noncomputable def o18_3 : Array Oper := regOps Tryd.f18 3
noncomputable def l18_3 : List Rop := [⟨some 5, .assign (.const (.int .i64 0)), none⟩]
theorem r18_3 : o18_3.toList.mapM (resolveG o18_3) = some l18_3 := by kernel_rfl
noncomputable def o18_4 : Array Oper := regOps Tryd.f18 4
noncomputable def l18_4 : List Rop := [⟨some 11, .move (.tmp 5), none⟩,
  ⟨some 12, .move (.tmp 0), none⟩,
  ⟨some 13, .call ⟨.builtin .len, #[.tmp 12], #[23]⟩, none⟩,
  ⟨some 14, .binOp .lss 3 (.tmp 11) (.tmp 13) 3, none⟩]
theorem r18_4 : o18_4.toList.mapM (resolveG o18_4) = some l18_4 := by kernel_rfl
noncomputable def o18_6 : Array Oper := regOps Tryd.f18 6
noncomputable def l18_6 : List Rop := [⟨some 17, .move (.tmp 0), none⟩,
  ⟨some 18, .move (.tmp 5), none⟩,
  ⟨some 19, .indexAddr 23 (.tmp 17) (.tmp 18), none⟩,
  ⟨some 20, .load 52 (.tmp 19), none⟩,
  ⟨some 21, .move (.tmp 1), none⟩,
  ⟨some 22, .move (.tmp 5), none⟩,
  ⟨some 23, .indexAddr 23 (.tmp 21) (.tmp 22), none⟩,
  ⟨some 24, .load 52 (.tmp 23), none⟩,
  ⟨some 25, .binOp .neq 52 (.tmp 20) (.tmp 24) 52, none⟩]
theorem r18_6 : o18_6.toList.mapM (resolveG o18_6) = some l18_6 := by kernel_rfl
noncomputable def o18_7 : Array Oper := regOps Tryd.f18 7
noncomputable def l18_7 : List Rop := [⟨some 4, .assign (.const (.bool false)), none⟩]
theorem r18_7 : o18_7.toList.mapM (resolveG o18_7) = some l18_7 := by kernel_rfl
noncomputable def o18_5 : Array Oper := regOps Tryd.f18 5
noncomputable def l18_5 : List Rop := [⟨some 15, .move (.tmp 5), none⟩,
  ⟨some 16, .binOp .add 3 (.tmp 15) (.const (.int .i64 1)) 3, none⟩,
  ⟨some 5, .assign (.tmp 16), none⟩]
theorem r18_5 : o18_5.toList.mapM (resolveG o18_5) = some l18_5 := by kernel_rfl
noncomputable def o18_8 : Array Oper := regOps Tryd.f18 8
noncomputable def l18_8 : List Rop := [⟨some 4, .assign (.const (.bool true)), none⟩]
theorem r18_8 : o18_8.toList.mapM (resolveG o18_8) = some l18_8 := by kernel_rfl
noncomputable def b18_L0 : Code := Code.seq (Code.seq (Code.region 4 o18_4 false) (Code.cond (Operand.tmp 14) Code.skip (Code.exit 0))) (Code.seq (Code.block 1 (Code.seq (Code.region 6 o18_6 true) (Code.cond (Operand.tmp 25) (Code.seq (Code.region 7 o18_7 false) Code.ret) Code.skip))) (Code.region 5 o18_5 false))
noncomputable def b18 : Code := (Code.seq (Code.region 0 o18_0 false) (Code.seq (Code.seq (Code.region 1 o18_1 false) (Code.cond (Operand.tmp 10) (Code.seq (Code.region 2 o18_2 false) Code.ret) Code.skip)) (Code.seq (Code.seq (Code.region 3 o18_3 false) (Code.block 0 (Code.loop b18_L0))) (Code.seq (Code.region 8 o18_8 false) Code.ret))))
theorem b18_eq : Tryd.f18.body = some b18 := by kernel_rfl
noncomputable def o19_0 : Array Oper := regOps Tryd.f19 0
noncomputable def l19_0 : List Rop := [⟨some 0, .assign (.const (.bool false)), none⟩]
theorem r19_0 : o19_0.toList.mapM (resolveG o19_0) = some l19_0 := by kernel_rfl
noncomputable def o19_1 : Array Oper := regOps Tryd.f19 1
noncomputable def l19_1 : List Rop := [⟨some 10, .buildSlice 24 2 #[(0, .const (.int .i64 1)), (1, .const (.int .i64 64))], none⟩,
  ⟨some 11, .call ⟨.value (.func 23), #[.tmp 10], #[24]⟩, none⟩,
  ⟨some 12, .buildSlice 24 2 #[(0, .const (.int .i64 1)), (1, .const (.int .i64 2))], none⟩,
  ⟨some 13, .call ⟨.value (.func 23), #[.tmp 12], #[24]⟩, none⟩,
  ⟨some 1, .assign (.tmp 11), none⟩,
  ⟨some 2, .assign (.tmp 13), none⟩]
theorem r19_1 : o19_1.toList.mapM (resolveG o19_1) = some l19_1 := by kernel_rfl
noncomputable def o19_2 : Array Oper := regOps Tryd.f19 2
noncomputable def l19_2 : List Rop := [⟨some 15, .move (.tmp 1), none⟩,
  ⟨some 16, .move (.tmp 2), none⟩,
  ⟨some 17, .call ⟨.value (.func 20), #[.tmp 15, .tmp 16], #[23, 23]⟩, none⟩,
  ⟨some 14, .move (.tmp 17), none⟩,
  ⟨some 18, .extract (.tmp 14) 0, none⟩,
  ⟨some 19, .extract (.tmp 14) 1, none⟩,
  ⟨some 3, .assign (.tmp 18), none⟩,
  ⟨some 4, .assign (.tmp 19), none⟩]
theorem r19_2 : o19_2.toList.mapM (resolveG o19_2) = some l19_2 := by kernel_rfl
noncomputable def o19_3 : Array Oper := regOps Tryd.f19 3
noncomputable def l19_3 : List Rop := [⟨some 21, .move (.tmp 1), none⟩,
  ⟨some 22, .move (.tmp 2), none⟩,
  ⟨some 23, .call ⟨.value (.func 21), #[.tmp 21, .tmp 22], #[23, 23]⟩, none⟩,
  ⟨some 20, .move (.tmp 23), none⟩,
  ⟨some 24, .extract (.tmp 20) 0, none⟩,
  ⟨some 25, .extract (.tmp 20) 1, none⟩,
  ⟨some 5, .assign (.tmp 24), none⟩,
  ⟨some 6, .assign (.tmp 25), none⟩]
theorem r19_3 : o19_3.toList.mapM (resolveG o19_3) = some l19_3 := by kernel_rfl
noncomputable def o19_4 : Array Oper := regOps Tryd.f19 4
noncomputable def l19_4 : List Rop := [⟨some 27, .move (.tmp 1), none⟩,
  ⟨some 28, .move (.tmp 2), none⟩,
  ⟨some 29, .call ⟨.value (.func 22), #[.tmp 27, .tmp 28], #[23, 23]⟩, none⟩,
  ⟨some 26, .move (.tmp 29), none⟩,
  ⟨some 30, .extract (.tmp 26) 0, none⟩,
  ⟨some 31, .extract (.tmp 26) 1, none⟩,
  ⟨some 7, .assign (.tmp 30), none⟩,
  ⟨some 8, .assign (.tmp 31), none⟩]
theorem r19_4 : o19_4.toList.mapM (resolveG o19_4) = some l19_4 := by kernel_rfl
noncomputable def o19_5 : Array Oper := regOps Tryd.f19 5
noncomputable def l19_5 : List Rop := [⟨some 32, .buildSlice 24 3 #[(0, .const (.int .i64 64)), (1, .const (.int .i64 1)), (2, .const (.int .i64 64))], none⟩,
  ⟨some 33, .call ⟨.value (.func 23), #[.tmp 32], #[24]⟩, none⟩,
  ⟨some 9, .assign (.tmp 33), none⟩]
theorem r19_5 : o19_5.toList.mapM (resolveG o19_5) = some l19_5 := by kernel_rfl
noncomputable def o19_6 : Array Oper := regOps Tryd.f19 6
noncomputable def l19_6 : List Rop := [⟨some 34, .move (.tmp 9), none⟩,
  ⟨some 35, .build 52 #[(0, .const (.int .i64 0)), (1, .const (.int .u64 2))], none⟩,
  ⟨some 36, .build 52 #[(0, .const (.int .i64 1)), (1, .const (.int .u64 1))], none⟩,
  ⟨some 37, .buildSlice 23 2 #[(0, .tmp 35), (1, .tmp 36)], none⟩,
  ⟨some 38, .call ⟨.value (.func 18), #[.tmp 34, .tmp 37], #[23, 23]⟩, none⟩,
  ⟨some 39, .move (.tmp 38), none⟩,
  ⟨some 40, .move (.tmp 4), some (39, true)⟩,
  ⟨some 41, .binOp .eql 25 (.tmp 40) (.const (.int .i64 0)) 25, some (39, true)⟩,
  ⟨some 42, .pick (.tmp 39) (.tmp 41) (.const (.bool false)), none⟩,
  ⟨some 43, .move (.tmp 42), none⟩,
  ⟨some 44, .move (.tmp 3), some (43, true)⟩,
  ⟨some 45, .buildSlice 24 3 #[(0, .const (.int .i64 1)), (1, .const (.int .i64 2)), (2, .const (.int .i64 64))], some (43, true)⟩,
  ⟨some 46, .call ⟨.value (.func 25), #[.tmp 44, .tmp 45], #[23, 24]⟩, some (43, true)⟩,
  ⟨some 47, .pick (.tmp 43) (.tmp 46) (.const (.bool false)), none⟩,
  ⟨some 48, .move (.tmp 47), none⟩,
  ⟨some 49, .move (.tmp 6), some (48, true)⟩,
  ⟨some 50, .binOp .eql 25 (.tmp 49) (.const (.int .i64 0)) 25, some (48, true)⟩,
  ⟨some 51, .pick (.tmp 48) (.tmp 50) (.const (.bool false)), none⟩,
  ⟨some 52, .move (.tmp 51), none⟩,
  ⟨some 53, .move (.tmp 5), some (52, true)⟩,
  ⟨some 54, .buildSlice 24 1 #[(0, .const (.int .i64 1))], some (52, true)⟩,
  ⟨some 55, .call ⟨.value (.func 25), #[.tmp 53, .tmp 54], #[23, 24]⟩, some (52, true)⟩,
  ⟨some 56, .pick (.tmp 52) (.tmp 55) (.const (.bool false)), none⟩,
  ⟨some 57, .move (.tmp 56), none⟩,
  ⟨some 58, .move (.tmp 8), some (57, true)⟩,
  ⟨some 59, .binOp .eql 25 (.tmp 58) (.const (.int .i64 0)) 25, some (57, true)⟩,
  ⟨some 60, .pick (.tmp 57) (.tmp 59) (.const (.bool false)), none⟩,
  ⟨some 61, .move (.tmp 60), none⟩,
  ⟨some 62, .move (.tmp 7), some (61, true)⟩,
  ⟨some 63, .buildSlice 24 1 #[(0, .const (.int .i64 64))], some (61, true)⟩,
  ⟨some 64, .call ⟨.value (.func 25), #[.tmp 62, .tmp 63], #[23, 24]⟩, some (61, true)⟩,
  ⟨some 65, .pick (.tmp 61) (.tmp 64) (.const (.bool false)), none⟩,
  ⟨some 0, .assign (.tmp 65), none⟩]
theorem r19_6 : o19_6.toList.mapM (resolveG o19_6) = some l19_6 := by kernel_rfl
noncomputable def b19 : Code := (Code.seq (Code.region 0 o19_0 false) (Code.seq (Code.region 1 o19_1 false) (Code.seq (Code.region 2 o19_2 false) (Code.seq (Code.region 3 o19_3 false) (Code.seq (Code.region 4 o19_4 false) (Code.seq (Code.region 5 o19_5 false) (Code.seq (Code.region 6 o19_6 false) Code.ret)))))))
theorem b19_eq : Tryd.f19.body = some b19 := by kernel_rfl
noncomputable def o20_0 : Array Oper := regOps Tryd.f20 0
noncomputable def l20_0 : List Rop := [⟨some 4, .assign (.const (.slice none 0 0)), none⟩,
  ⟨some 5, .assign (.const (.int .i64 0)), none⟩]
theorem r20_0 : o20_0.toList.mapM (resolveG o20_0) = some l20_0 := by kernel_rfl
noncomputable def o20_1 : Array Oper := regOps Tryd.f20 1
noncomputable def l20_1 : List Rop := [⟨some 6, .move (.tmp 0), none⟩,
  ⟨some 7, .move (.tmp 1), none⟩,
  ⟨some 8, .call ⟨.value (.func 35), #[.tmp 6, .tmp 7, .func 36], #[23, 23, 66]⟩, none⟩,
  ⟨some 9, .extract (.tmp 8) 0, none⟩,
  ⟨some 10, .extract (.tmp 8) 1, none⟩,
  ⟨some 4, .assign (.tmp 9), none⟩,
  ⟨some 5, .assign (.tmp 10), none⟩]
theorem r20_1 : o20_1.toList.mapM (resolveG o20_1) = some l20_1 := by kernel_rfl
noncomputable def b20 : Code := (Code.seq (Code.region 0 o20_0 false) (Code.seq (Code.region 1 o20_1 false) Code.ret))
theorem b20_eq : Tryd.f20.body = some b20 := by kernel_rfl
noncomputable def o21_0 : Array Oper := regOps Tryd.f21 0
noncomputable def l21_0 : List Rop := [⟨some 4, .assign (.const (.slice none 0 0)), none⟩,
  ⟨some 5, .assign (.const (.int .i64 0)), none⟩]
theorem r21_0 : o21_0.toList.mapM (resolveG o21_0) = some l21_0 := by kernel_rfl
noncomputable def o21_1 : Array Oper := regOps Tryd.f21 1
noncomputable def l21_1 : List Rop := [⟨some 6, .move (.tmp 0), none⟩,
  ⟨some 7, .move (.tmp 1), none⟩,
  ⟨some 8, .call ⟨.value (.func 35), #[.tmp 6, .tmp 7, .func 37], #[23, 23, 66]⟩, none⟩,
  ⟨some 9, .extract (.tmp 8) 0, none⟩,
  ⟨some 10, .extract (.tmp 8) 1, none⟩,
  ⟨some 4, .assign (.tmp 9), none⟩,
  ⟨some 5, .assign (.tmp 10), none⟩]
theorem r21_1 : o21_1.toList.mapM (resolveG o21_1) = some l21_1 := by kernel_rfl
noncomputable def b21 : Code := (Code.seq (Code.region 0 o21_0 false) (Code.seq (Code.region 1 o21_1 false) Code.ret))
theorem b21_eq : Tryd.f21.body = some b21 := by kernel_rfl
noncomputable def o22_0 : Array Oper := regOps Tryd.f22 0
noncomputable def l22_0 : List Rop := [⟨some 4, .assign (.const (.slice none 0 0)), none⟩,
  ⟨some 5, .assign (.const (.int .i64 0)), none⟩]
theorem r22_0 : o22_0.toList.mapM (resolveG o22_0) = some l22_0 := by kernel_rfl
noncomputable def o22_1 : Array Oper := regOps Tryd.f22 1
noncomputable def l22_1 : List Rop := [⟨some 6, .move (.tmp 0), none⟩,
  ⟨some 7, .move (.tmp 1), none⟩,
  ⟨some 8, .call ⟨.value (.func 35), #[.tmp 6, .tmp 7, .func 38], #[23, 23, 66]⟩, none⟩,
  ⟨some 9, .extract (.tmp 8) 0, none⟩,
  ⟨some 10, .extract (.tmp 8) 1, none⟩,
  ⟨some 4, .assign (.tmp 9), none⟩,
  ⟨some 5, .assign (.tmp 10), none⟩]
theorem r22_1 : o22_1.toList.mapM (resolveG o22_1) = some l22_1 := by kernel_rfl
noncomputable def b22 : Code := (Code.seq (Code.region 0 o22_0 false) (Code.seq (Code.region 1 o22_1 false) Code.ret))
theorem b22_eq : Tryd.f22.body = some b22 := by kernel_rfl
noncomputable def o23_0 : Array Oper := regOps Tryd.f23 0
noncomputable def l23_0 : List Rop := [⟨some 2, .assign (.const (.slice none 0 0)), none⟩]
theorem r23_0 : o23_0.toList.mapM (resolveG o23_0) = some l23_0 := by kernel_rfl
noncomputable def o23_1 : Array Oper := regOps Tryd.f23 1
noncomputable def l23_1 : List Rop := [⟨some 6, .move (.tmp 0), none⟩,
  ⟨some 7, .call ⟨.value (.func 24), #[.tmp 6], #[24]⟩, none⟩,
  ⟨some 5, .move (.tmp 7), none⟩,
  ⟨some 8, .extract (.tmp 5) 0, none⟩,
  ⟨some 9, .extract (.tmp 5) 1, none⟩,
  ⟨some 3, .assign (.tmp 8), none⟩,
  ⟨some 4, .assign (.tmp 9), none⟩]
theorem r23_1 : o23_1.toList.mapM (resolveG o23_1) = some l23_1 := by kernel_rfl
noncomputable def o23_2 : Array Oper := regOps Tryd.f23 2
noncomputable def l23_2 : List Rop := [⟨some 10, .move (.tmp 4), none⟩,
  ⟨some 11, .binOp .neq 25 (.tmp 10) (.const (.int .i64 0)) 25, none⟩]
theorem r23_2 : o23_2.toList.mapM (resolveG o23_2) = some l23_2 := by kernel_rfl
noncomputable def o23_3 : Array Oper := regOps Tryd.f23 3
noncomputable def l23_3 : List Rop := [⟨some 2, .assign (.const (.slice none 0 0)), none⟩]
theorem r23_3 : o23_3.toList.mapM (resolveG o23_3) = some l23_3 := by kernel_rfl
noncomputable def o23_4 : Array Oper := regOps Tryd.f23 4
noncomputable def l23_4 : List Rop := [⟨some 12, .move (.tmp 3), none⟩,
  ⟨some 2, .assign (.tmp 12), none⟩]
theorem r23_4 : o23_4.toList.mapM (resolveG o23_4) = some l23_4 := by kernel_rfl
noncomputable def b23 : Code := (Code.seq (Code.region 0 o23_0 false) (Code.seq (Code.region 1 o23_1 false) (Code.seq (Code.seq (Code.region 2 o23_2 false) (Code.cond (Operand.tmp 11) (Code.seq (Code.region 3 o23_3 false) Code.ret) Code.skip)) (Code.seq (Code.region 4 o23_4 false) Code.ret))))
theorem b23_eq : Tryd.f23.body = some b23 := by kernel_rfl
noncomputable def o24_0 : Array Oper := regOps Tryd.f24 0
noncomputable def l24_0 : List Rop := [⟨some 2, .assign (.const (.slice none 0 0)), none⟩,
  ⟨some 3, .assign (.const (.int .i64 0)), none⟩]
theorem r24_0 : o24_0.toList.mapM (resolveG o24_0) = some l24_0 := by kernel_rfl
noncomputable def o24_1 : Array Oper := regOps Tryd.f24 1
noncomputable def l24_1 : List Rop := [⟨some 10, .move (.tmp 0), none⟩,
  ⟨some 11, .call ⟨.value (.func 39), #[.tmp 10], #[24]⟩, none⟩,
  ⟨some 4, .assign (.tmp 11), none⟩]
theorem r24_1 : o24_1.toList.mapM (resolveG o24_1) = some l24_1 := by kernel_rfl
noncomputable def o24_2 : Array Oper := regOps Tryd.f24 2
noncomputable def l24_2 : List Rop := [⟨some 12, .move (.tmp 4), none⟩,
  ⟨some 13, .call ⟨.value (.func 40), #[.tmp 12], #[24]⟩, none⟩]
theorem r24_2 : o24_2.toList.mapM (resolveG o24_2) = some l24_2 := by kernel_rfl
noncomputable def o24_3 : Array Oper := regOps Tryd.f24 3
noncomputable def l24_3 : List Rop := [⟨some 5, .assign (.const (.slice none 0 0)), none⟩]
theorem r24_3 : o24_3.toList.mapM (resolveG o24_3) = some l24_3 := by kernel_rfl
noncomputable def o24_4 : Array Oper := regOps Tryd.f24 4
noncomputable def l24_4 : List Rop := [⟨some 14, .move (.tmp 4), none⟩,
  ⟨some 15, .call ⟨.builtin .len, #[.tmp 14], #[24]⟩, none⟩,
  ⟨some 16, .move (.const (.int .i64 0)), none⟩]
theorem r24_4 : o24_4.toList.mapM (resolveG o24_4) = some l24_4 := by kernel_rfl
noncomputable def o24_5 : Array Oper := regOps Tryd.f24 5
noncomputable def l24_5 : List Rop := [⟨some 17, .binOp .lss 3 (.tmp 16) (.tmp 15) 3, none⟩]
theorem r24_5 : o24_5.toList.mapM (resolveG o24_5) = some l24_5 := by kernel_rfl
noncomputable def o24_6 : Array Oper := regOps Tryd.f24 6
noncomputable def l24_6 : List Rop := [⟨some 18, .indexAddr 24 (.tmp 14) (.tmp 16), none⟩,
  ⟨some 19, .load 3 (.tmp 18), none⟩,
  ⟨some 7, .assign (.tmp 19), none⟩]
theorem r24_6 : o24_6.toList.mapM (resolveG o24_6) = some l24_6 := by kernel_rfl
noncomputable def o24_7 : Array Oper := regOps Tryd.f24 7
noncomputable def l24_7 : List Rop := [⟨some 20, .move (.tmp 7), none⟩,
  ⟨some 21, .call ⟨.value (.func 29), #[.tmp 20], #[3]⟩, none⟩,
  ⟨some 22, .unOp .not 4 (.tmp 21), none⟩]
theorem r24_7 : o24_7.toList.mapM (resolveG o24_7) = some l24_7 := by kernel_rfl
noncomputable def o24_8 : Array Oper := regOps Tryd.f24 8
noncomputable def l24_8 : List Rop := [⟨some 2, .assign (.const (.slice none 0 0)), none⟩,
  ⟨some 3, .assign (.const (.int .i64 2)), none⟩]
theorem r24_8 : o24_8.toList.mapM (resolveG o24_8) = some l24_8 := by kernel_rfl
noncomputable def o24_9 : Array Oper := regOps Tryd.f24 9
noncomputable def l24_9 : List Rop := [⟨some 23, .move (.tmp 7), none⟩,
  ⟨some 24, .binOp .quo 3 (.tmp 23) (.const (.int .i64 64)) 3, none⟩,
  ⟨some 8, .assign (.tmp 24), none⟩]
theorem r24_9 : o24_9.toList.mapM (resolveG o24_9) = some l24_9 := by kernel_rfl
noncomputable def o24_10 : Array Oper := regOps Tryd.f24 10
noncomputable def l24_10 : List Rop := [⟨some 25, .move (.tmp 5), none⟩,
  ⟨some 26, .call ⟨.builtin .len, #[.tmp 25], #[23]⟩, none⟩,
  ⟨some 9, .assign (.tmp 26), none⟩]
theorem r24_10 : o24_10.toList.mapM (resolveG o24_10) = some l24_10 := by kernel_rfl
noncomputable def o24_11 : Array Oper := regOps Tryd.f24 11
noncomputable def l24_11 : List Rop := [⟨some 27, .move (.tmp 9), none⟩,
  ⟨some 28, .binOp .eql 3 (.tmp 27) (.const (.int .i64 0)) 3, none⟩,
  ⟨some 29, .move (.tmp 28), none⟩,
  ⟨some 30, .move (.tmp 5), some (29, false)⟩,
  ⟨some 31, .move (.tmp 9), some (29, false)⟩,
  ⟨some 32, .binOp .sub 3 (.tmp 31) (.const (.int .i64 1)) 3, some (29, false)⟩,
  ⟨some 33, .indexAddr 23 (.tmp 30) (.tmp 32), some (29, false)⟩,
  ⟨some 34, .fieldAddr 52 (.tmp 33) 0, some (29, false)⟩,
  ⟨some 35, .load 3 (.tmp 34), some (29, false)⟩,
  ⟨some 36, .move (.tmp 8), some (29, false)⟩,
  ⟨some 37, .binOp .neq 3 (.tmp 35) (.tmp 36) 3, some (29, false)⟩,
  ⟨some 38, .pick (.tmp 29) (.const (.bool true)) (.tmp 37), none⟩]
theorem r24_11 : o24_11.toList.mapM (resolveG o24_11) = some l24_11 := by kernel_rfl
noncomputable def o24_12 : Array Oper := regOps Tryd.f24 12
noncomputable def l24_12 : List Rop := [⟨some 39, .move (.tmp 5), none⟩,
  ⟨some 40, .move (.tmp 8), none⟩,
  ⟨some 41, .build 52 #[(0, .tmp 40)], none⟩,
  ⟨some 42, .buildSlice 23 1 #[(0, .tmp 41)], none⟩,
  ⟨some 43, .call ⟨.builtin .append, #[.tmp 39, .tmp 42], #[23, 23]⟩, none⟩,
  ⟨some 5, .assign (.tmp 43), none⟩]
theorem r24_12 : o24_12.toList.mapM (resolveG o24_12) = some l24_12 := by kernel_rfl
noncomputable def o24_13 : Array Oper := regOps Tryd.f24 13
noncomputable def l24_13 : List Rop := [⟨some 44, .move (.tmp 5), none⟩,
  ⟨some 45, .move (.tmp 5), none⟩,
  ⟨some 46, .call ⟨.builtin .len, #[.tmp 45], #[23]⟩, none⟩,
  ⟨some 47, .binOp .sub 3 (.tmp 46) (.const (.int .i64 1)) 3, none⟩,
  ⟨some 48, .indexAddr 23 (.tmp 44) (.tmp 47), none⟩,
  ⟨some 49, .fieldAddr 52 (.tmp 48) 1, none⟩,
  ⟨some 50, .load 50 (.tmp 49), none⟩,
  ⟨some 51, .move (.tmp 7), none⟩,
  ⟨some 52, .binOp .rem 3 (.tmp 51) (.const (.int .i64 64)) 3, none⟩,
  ⟨some 53, .binOp .shl 50 (.const (.int .u64 1)) (.tmp 52) 3, none⟩,
  ⟨some 54, .binOp .or 50 (.tmp 50) (.tmp 53) 50, none⟩,
  ⟨some 55, .indexAddr 23 (.tmp 44) (.tmp 47), none⟩,
  ⟨some 56, .fieldAddr 52 (.tmp 55) 1, none⟩,
  ⟨none, .store 50 (.tmp 56) (.tmp 54), none⟩]
theorem r24_13 : o24_13.toList.mapM (resolveG o24_13) = some l24_13 := by kernel_rfl
noncomputable def o24_14 : Array Oper := regOps Tryd.f24 14
noncomputable def l24_14 : List Rop := [⟨some 57, .binOp .add 3 (.tmp 16) (.const (.int .i64 1)) 3, none⟩,
  ⟨some 16, .move (.tmp 57), none⟩]
theorem r24_14 : o24_14.toList.mapM (resolveG o24_14) = some l24_14 := by kernel_rfl
noncomputable def o24_15 : Array Oper := regOps Tryd.f24 15
noncomputable def l24_15 : List Rop := [⟨some 58, .move (.tmp 5), none⟩,
  ⟨some 2, .assign (.tmp 58), none⟩,
  ⟨some 3, .assign (.const (.int .i64 0)), none⟩]
theorem r24_15 : o24_15.toList.mapM (resolveG o24_15) = some l24_15 := by kernel_rfl
noncomputable def b24_L0 : Code := Code.seq (Code.region 5 o24_5 false) (Code.seq (Code.cond (Operand.tmp 17) Code.skip (Code.exit 0)) (Code.seq (Code.block 1 (Code.seq (Code.region 6 o24_6 false) (Code.seq (Code.seq (Code.region 7 o24_7 false) (Code.cond (Operand.tmp 22) (Code.seq (Code.region 8 o24_8 false) Code.ret) Code.skip)) (Code.seq (Code.region 9 o24_9 false) (Code.seq (Code.seq (Code.region 10 o24_10 false) (Code.seq (Code.region 11 o24_11 false) (Code.cond (Operand.tmp 38) (Code.region 12 o24_12 false) Code.skip))) (Code.region 13 o24_13 true)))))) (Code.region 14 o24_14 false)))
noncomputable def b24 : Code := (Code.seq (Code.region 0 o24_0 false) (Code.seq (Code.region 1 o24_1 false) (Code.seq (Code.region 2 o24_2 false) (Code.seq (Code.region 3 o24_3 false) (Code.seq (Code.seq (Code.region 4 o24_4 false) (Code.block 0 (Code.loop b24_L0))) (Code.seq (Code.region 15 o24_15 false) Code.ret))))))
theorem b24_eq : Tryd.f24.body = some b24 := by kernel_rfl
noncomputable def o25_0 : Array Oper := regOps Tryd.f25 0
noncomputable def l25_0 : List Rop := [⟨some 4, .assign (.const (.bool false)), none⟩]
theorem r25_0 : o25_0.toList.mapM (resolveG o25_0) = some l25_0 := by kernel_rfl
noncomputable def o25_1 : Array Oper := regOps Tryd.f25 1
noncomputable def l25_1 : List Rop := [⟨some 8, .move (.tmp 0), none⟩,
  ⟨some 9, .call ⟨.value (.func 8), #[.tmp 8], #[23]⟩, none⟩,
  ⟨some 7, .move (.tmp 9), none⟩,
  ⟨some 10, .extract (.tmp 7) 0, none⟩,
  ⟨some 11, .extract (.tmp 7) 1, none⟩,
  ⟨some 5, .assign (.tmp 10), none⟩,
  ⟨some 6, .assign (.tmp 11), none⟩]
theorem r25_1 : o25_1.toList.mapM (resolveG o25_1) = some l25_1 := by kernel_rfl
noncomputable def o25_2 : Array Oper := regOps Tryd.f25 2
noncomputable def l25_2 : List Rop := [⟨some 12, .move (.tmp 6), none⟩,
  ⟨some 13, .binOp .eql 25 (.tmp 12) (.const (.int .i64 0)) 25, none⟩,
  ⟨some 14, .move (.tmp 13), none⟩,
  ⟨some 15, .move (.tmp 5), some (14, true)⟩,
  ⟨some 16, .move (.tmp 1), some (14, true)⟩,
  ⟨some 17, .call ⟨.value (.func 14), #[.tmp 15, .tmp 16], #[24, 24]⟩, some (14, true)⟩,
  ⟨some 18, .pick (.tmp 14) (.tmp 17) (.const (.bool false)), none⟩,
  ⟨some 4, .assign (.tmp 18), none⟩]
theorem r25_2 : o25_2.toList.mapM (resolveG o25_2) = some l25_2 := by kernel_rfl
noncomputable def b25 : Code := (Code.seq (Code.region 0 o25_0 false) (Code.seq (Code.region 1 o25_1 false) (Code.seq (Code.region 2 o25_2 false) Code.ret)))
theorem b25_eq : Tryd.f25.body = some b25 := by kernel_rfl
noncomputable def o27_0 : Array Oper := regOps Tryd.f27 0
noncomputable def l27_0 : List Rop := [⟨some 2, .assign (.const (.bool false)), none⟩]
theorem r27_0 : o27_0.toList.mapM (resolveG o27_0) = some l27_0 := by kernel_rfl
noncomputable def o27_1 : Array Oper := regOps Tryd.f27 1
noncomputable def l27_1 : List Rop := [⟨some 3, .assign (.const (.int .i64 0)), none⟩]
theorem r27_1 : o27_1.toList.mapM (resolveG o27_1) = some l27_1 := by kernel_rfl
noncomputable def o27_2 : Array Oper := regOps Tryd.f27 2
noncomputable def l27_2 : List Rop := [⟨some 4, .move (.tmp 3), none⟩,
  ⟨some 5, .move (.tmp 0), none⟩,
  ⟨some 6, .call ⟨.builtin .len, #[.tmp 5], #[23]⟩, none⟩,
  ⟨some 7, .binOp .lss 3 (.tmp 4) (.tmp 6) 3, none⟩]
theorem r27_2 : o27_2.toList.mapM (resolveG o27_2) = some l27_2 := by kernel_rfl
noncomputable def o27_4 : Array Oper := regOps Tryd.f27 4
noncomputable def l27_4 : List Rop := [⟨some 10, .move (.tmp 0), none⟩,
  ⟨some 11, .move (.tmp 3), none⟩,
  ⟨some 12, .indexAddr 23 (.tmp 10) (.tmp 11), none⟩,
  ⟨some 13, .fieldAddr 52 (.tmp 12) 0, none⟩,
  ⟨some 14, .load 3 (.tmp 13), none⟩,
  ⟨some 15, .binOp .lss 3 (.tmp 14) (.const (.int .i64 0)) 3, none⟩,
  ⟨some 16, .move (.tmp 15), none⟩,
  ⟨some 17, .move (.tmp 0), some (16, false)⟩,
  ⟨some 18, .move (.tmp 3), some (16, false)⟩,
  ⟨some 19, .indexAddr 23 (.tmp 17) (.tmp 18), some (16, false)⟩,
  ⟨some 20, .fieldAddr 52 (.tmp 19) 0, some (16, false)⟩,
  ⟨some 21, .load 3 (.tmp 20), some (16, false)⟩,
  ⟨some 22, .binOp .geq 3 (.tmp 21) (.const (.int .i64 16384)) 3, some (16, false)⟩,
  ⟨some 23, .pick (.tmp 16) (.const (.bool true)) (.tmp 22), none⟩,
  ⟨some 24, .move (.tmp 23), none⟩,
  ⟨some 25, .move (.tmp 0), some (24, false)⟩,
  ⟨some 26, .move (.tmp 3), some (24, false)⟩,
  ⟨some 27, .indexAddr 23 (.tmp 25) (.tmp 26), some (24, false)⟩,
  ⟨some 28, .fieldAddr 52 (.tmp 27) 1, some (24, false)⟩,
  ⟨some 29, .load 50 (.tmp 28), some (24, false)⟩,
  ⟨some 30, .binOp .eql 50 (.tmp 29) (.const (.int .u64 0)) 50, some (24, false)⟩,
  ⟨some 31, .pick (.tmp 24) (.const (.bool true)) (.tmp 30), none⟩,
  ⟨some 32, .move (.tmp 31), none⟩,
  ⟨some 33, .move (.tmp 3), some (32, false)⟩,
  ⟨some 34, .binOp .gtr 3 (.tmp 33) (.const (.int .i64 0)) 3, some (32, false)⟩,
  ⟨some 35, .move (.tmp 34), some (32, false)⟩,
  ⟨some 36, .move (.tmp 0), some (35, true)⟩,
  ⟨some 37, .move (.tmp 3), some (35, true)⟩,
  ⟨some 38, .binOp .sub 3 (.tmp 37) (.const (.int .i64 1)) 3, some (35, true)⟩,
  ⟨some 39, .indexAddr 23 (.tmp 36) (.tmp 38), some (35, true)⟩,
  ⟨some 40, .fieldAddr 52 (.tmp 39) 0, some (35, true)⟩,
  ⟨some 41, .load 3 (.tmp 40), some (35, true)⟩,
  ⟨some 42, .move (.tmp 0), some (35, true)⟩,
  ⟨some 43, .move (.tmp 3), some (35, true)⟩,
  ⟨some 44, .indexAddr 23 (.tmp 42) (.tmp 43), some (35, true)⟩,
  ⟨some 45, .fieldAddr 52 (.tmp 44) 0, some (35, true)⟩,
  ⟨some 46, .load 3 (.tmp 45), some (35, true)⟩,
  ⟨some 47, .binOp .geq 3 (.tmp 41) (.tmp 46) 3, some (35, true)⟩,
  ⟨some 48, .pick (.tmp 35) (.tmp 47) (.const (.bool false)), some (32, false)⟩,
  ⟨some 49, .pick (.tmp 32) (.const (.bool true)) (.tmp 48), none⟩]
theorem r27_4 : o27_4.toList.mapM (resolveG o27_4) = some l27_4 := by kernel_rfl
noncomputable def o27_5 : Array Oper := regOps Tryd.f27 5
noncomputable def l27_5 : List Rop := [⟨some 2, .assign (.const (.bool false)), none⟩]
theorem r27_5 : o27_5.toList.mapM (resolveG o27_5) = some l27_5 := by kernel_rfl
noncomputable def o27_3 : Array Oper := regOps Tryd.f27 3
noncomputable def l27_3 : List Rop := [⟨some 8, .move (.tmp 3), none⟩,
  ⟨some 9, .binOp .add 3 (.tmp 8) (.const (.int .i64 1)) 3, none⟩,
  ⟨some 3, .assign (.tmp 9), none⟩]
theorem r27_3 : o27_3.toList.mapM (resolveG o27_3) = some l27_3 := by kernel_rfl
noncomputable def o27_6 : Array Oper := regOps Tryd.f27 6
noncomputable def l27_6 : List Rop := [⟨some 2, .assign (.const (.bool true)), none⟩]
theorem r27_6 : o27_6.toList.mapM (resolveG o27_6) = some l27_6 := by kernel_rfl
noncomputable def b27_L0 : Code := Code.seq (Code.seq (Code.region 2 o27_2 false) (Code.cond (Operand.tmp 7) Code.skip (Code.exit 0))) (Code.seq (Code.block 1 (Code.seq (Code.region 4 o27_4 true) (Code.cond (Operand.tmp 49) (Code.seq (Code.region 5 o27_5 false) Code.ret) Code.skip))) (Code.region 3 o27_3 false))
noncomputable def b27 : Code := (Code.seq (Code.region 0 o27_0 false) (Code.seq (Code.seq (Code.region 1 o27_1 false) (Code.block 0 (Code.loop b27_L0))) (Code.seq (Code.region 6 o27_6 false) Code.ret)))
theorem b27_eq : Tryd.f27.body = some b27 := by kernel_rfl
noncomputable def o28_0 : Array Oper := regOps Tryd.f28 0
noncomputable def l28_0 : List Rop := [⟨some 2, .assign (.const (.slice none 0 0)), none⟩]
theorem r28_0 : o28_0.toList.mapM (resolveG o28_0) = some l28_0 := by kernel_rfl
noncomputable def o28_1 : Array Oper := regOps Tryd.f28 1
noncomputable def l28_1 : List Rop := [⟨some 3, .assign (.const (.slice none 0 0)), none⟩]
theorem r28_1 : o28_1.toList.mapM (resolveG o28_1) = some l28_1 := by kernel_rfl
noncomputable def o28_2 : Array Oper := regOps Tryd.f28 2
noncomputable def l28_2 : List Rop := [⟨some 4, .assign (.const (.int .i64 0)), none⟩]
theorem r28_2 : o28_2.toList.mapM (resolveG o28_2) = some l28_2 := by kernel_rfl
noncomputable def o28_3 : Array Oper := regOps Tryd.f28 3
noncomputable def l28_3 : List Rop := [⟨some 7, .move (.tmp 4), none⟩,
  ⟨some 8, .move (.tmp 0), none⟩,
  ⟨some 9, .call ⟨.builtin .len, #[.tmp 8], #[23]⟩, none⟩,
  ⟨some 10, .binOp .lss 3 (.tmp 7) (.tmp 9) 3, none⟩]
theorem r28_3 : o28_3.toList.mapM (resolveG o28_3) = some l28_3 := by kernel_rfl
noncomputable def o28_5 : Array Oper := regOps Tryd.f28 5
noncomputable def l28_5 : List Rop := [⟨some 13, .move (.tmp 0), none⟩,
  ⟨some 14, .move (.tmp 4), none⟩,
  ⟨some 15, .indexAddr 23 (.tmp 13) (.tmp 14), none⟩,
  ⟨some 16, .fieldAddr 52 (.tmp 15) 1, none⟩,
  ⟨some 17, .load 50 (.tmp 16), none⟩,
  ⟨some 5, .assign (.tmp 17), none⟩]
theorem r28_5 : o28_5.toList.mapM (resolveG o28_5) = some l28_5 := by kernel_rfl
noncomputable def o28_6 : Array Oper := regOps Tryd.f28 6
noncomputable def l28_6 : List Rop := [⟨some 6, .assign (.const (.int .i64 0)), none⟩]
theorem r28_6 : o28_6.toList.mapM (resolveG o28_6) = some l28_6 := by kernel_rfl
noncomputable def o28_7 : Array Oper := regOps Tryd.f28 7
noncomputable def l28_7 : List Rop := [⟨some 18, .move (.tmp 6), none⟩,
  ⟨some 19, .binOp .lss 3 (.tmp 18) (.const (.int .i64 64)) 3, none⟩]
theorem r28_7 : o28_7.toList.mapM (resolveG o28_7) = some l28_7 := by kernel_rfl
noncomputable def o28_9 : Array Oper := regOps Tryd.f28 9
noncomputable def l28_9 : List Rop := [⟨some 22, .move (.tmp 5), none⟩,
  ⟨some 23, .binOp .rem 50 (.tmp 22) (.const (.int .u64 2)) 50, none⟩,
  ⟨some 24, .binOp .eql 50 (.tmp 23) (.const (.int .u64 1)) 50, none⟩]
theorem r28_9 : o28_9.toList.mapM (resolveG o28_9) = some l28_9 := by kernel_rfl
noncomputable def o28_10 : Array Oper := regOps Tryd.f28 10
noncomputable def l28_10 : List Rop := [⟨some 25, .move (.tmp 3), none⟩,
  ⟨some 26, .move (.tmp 0), none⟩,
  ⟨some 27, .move (.tmp 4), none⟩,
  ⟨some 28, .indexAddr 23 (.tmp 26) (.tmp 27), none⟩,
  ⟨some 29, .fieldAddr 52 (.tmp 28) 0, none⟩,
  ⟨some 30, .load 3 (.tmp 29), none⟩,
  ⟨some 31, .binOp .mul 3 (.const (.int .i64 64)) (.tmp 30) 3, none⟩,
  ⟨some 32, .move (.tmp 6), none⟩,
  ⟨some 33, .binOp .add 3 (.tmp 31) (.tmp 32) 3, none⟩,
  ⟨some 34, .buildSlice 24 1 #[(0, .tmp 33)], none⟩,
  ⟨some 35, .call ⟨.builtin .append, #[.tmp 25, .tmp 34], #[24, 24]⟩, none⟩,
  ⟨some 3, .assign (.tmp 35), none⟩]
theorem r28_10 : o28_10.toList.mapM (resolveG o28_10) = some l28_10 := by kernel_rfl
noncomputable def o28_11 : Array Oper := regOps Tryd.f28 11
noncomputable def l28_11 : List Rop := [⟨some 36, .move (.tmp 5), none⟩,
  ⟨some 37, .binOp .quo 50 (.tmp 36) (.const (.int .u64 2)) 50, none⟩,
  ⟨some 5, .assign (.tmp 37), none⟩]
theorem r28_11 : o28_11.toList.mapM (resolveG o28_11) = some l28_11 := by kernel_rfl
noncomputable def o28_8 : Array Oper := regOps Tryd.f28 8
noncomputable def l28_8 : List Rop := [⟨some 20, .move (.tmp 6), none⟩,
  ⟨some 21, .binOp .add 3 (.tmp 20) (.const (.int .i64 1)) 3, none⟩,
  ⟨some 6, .assign (.tmp 21), none⟩]
theorem r28_8 : o28_8.toList.mapM (resolveG o28_8) = some l28_8 := by kernel_rfl
noncomputable def o28_4 : Array Oper := regOps Tryd.f28 4
noncomputable def l28_4 : List Rop := [⟨some 11, .move (.tmp 4), none⟩,
  ⟨some 12, .binOp .add 3 (.tmp 11) (.const (.int .i64 1)) 3, none⟩,
  ⟨some 4, .assign (.tmp 12), none⟩]
theorem r28_4 : o28_4.toList.mapM (resolveG o28_4) = some l28_4 := by kernel_rfl
noncomputable def o28_12 : Array Oper := regOps Tryd.f28 12
noncomputable def l28_12 : List Rop := [⟨some 38, .move (.tmp 3), none⟩,
  ⟨some 2, .assign (.tmp 38), none⟩]
theorem r28_12 : o28_12.toList.mapM (resolveG o28_12) = some l28_12 := by kernel_rfl
noncomputable def b28_L0 : Code := Code.seq (Code.seq (Code.region 7 o28_7 false) (Code.cond (Operand.tmp 19) Code.skip (Code.exit 2))) (Code.seq (Code.block 3 (Code.seq (Code.seq (Code.region 9 o28_9 false) (Code.cond (Operand.tmp 24) (Code.region 10 o28_10 false) Code.skip)) (Code.region 11 o28_11 false))) (Code.region 8 o28_8 false))
noncomputable def b28_L1 : Code := Code.seq (Code.seq (Code.region 3 o28_3 false) (Code.cond (Operand.tmp 10) Code.skip (Code.exit 0))) (Code.seq (Code.block 1 (Code.seq (Code.region 5 o28_5 false) (Code.seq (Code.region 6 o28_6 false) (Code.block 2 (Code.loop b28_L0))))) (Code.region 4 o28_4 false))
noncomputable def b28 : Code := (Code.seq (Code.region 0 o28_0 false) (Code.seq (Code.region 1 o28_1 false) (Code.seq (Code.seq (Code.region 2 o28_2 false) (Code.block 0 (Code.loop b28_L1))) (Code.seq (Code.region 12 o28_12 false) Code.ret))))
theorem b28_eq : Tryd.f28.body = some b28 := by kernel_rfl
noncomputable def o29_0 : Array Oper := regOps Tryd.f29 0
noncomputable def l29_0 : List Rop := [⟨some 2, .assign (.const (.bool false)), none⟩]
theorem r29_0 : o29_0.toList.mapM (resolveG o29_0) = some l29_0 := by kernel_rfl
noncomputable def o29_1 : Array Oper := regOps Tryd.f29 1
noncomputable def l29_1 : List Rop := [⟨some 3, .move (.tmp 0), none⟩,
  ⟨some 4, .binOp .geq 3 (.tmp 3) (.const (.int .i64 0)) 3, none⟩,
  ⟨some 5, .move (.tmp 4), none⟩,
  ⟨some 6, .move (.tmp 0), some (5, true)⟩,
  ⟨some 7, .binOp .lss 3 (.tmp 6) (.const (.int .i64 1048576)) 3, some (5, true)⟩,
  ⟨some 8, .pick (.tmp 5) (.tmp 7) (.const (.bool false)), none⟩,
  ⟨some 2, .assign (.tmp 8), none⟩]
theorem r29_1 : o29_1.toList.mapM (resolveG o29_1) = some l29_1 := by kernel_rfl
noncomputable def b29 : Code := (Code.seq (Code.region 0 o29_0 false) (Code.seq (Code.region 1 o29_1 false) Code.ret))
theorem b29_eq : Tryd.f29.body = some b29 := by kernel_rfl
noncomputable def o30_0 : Array Oper := regOps Tryd.f30 0
noncomputable def l30_0 : List Rop := [⟨some 6, .assign (.const (.int .i64 0)), none⟩,
  ⟨some 7, .assign (.const (.bool false)), none⟩]
theorem r30_0 : o30_0.toList.mapM (resolveG o30_0) = some l30_0 := by kernel_rfl
noncomputable def o30_1 : Array Oper := regOps Tryd.f30 1
noncomputable def l30_1 : List Rop := [⟨some 12, .move (.tmp 0), none⟩,
  ⟨some 13, .call ⟨.builtin .len, #[.tmp 12], #[23]⟩, none⟩,
  ⟨some 8, .assign (.tmp 13), none⟩]
theorem r30_1 : o30_1.toList.mapM (resolveG o30_1) = some l30_1 := by kernel_rfl
noncomputable def o30_2 : Array Oper := regOps Tryd.f30 2
noncomputable def l30_2 : List Rop := [⟨some 14, .move (.tmp 8), none⟩,
  ⟨some 9, .assign (.const (.int .i64 0)), none⟩,
  ⟨some 10, .assign (.tmp 14), none⟩]
theorem r30_2 : o30_2.toList.mapM (resolveG o30_2) = some l30_2 := by kernel_rfl
noncomputable def o30_3 : Array Oper := regOps Tryd.f30 3
noncomputable def l30_3 : List Rop := [⟨some 15, .move (.tmp 9), none⟩,
  ⟨some 16, .move (.tmp 10), none⟩,
  ⟨some 17, .binOp .lss 3 (.tmp 15) (.tmp 16) 3, none⟩]
theorem r30_3 : o30_3.toList.mapM (resolveG o30_3) = some l30_3 := by kernel_rfl
noncomputable def o30_4 : Array Oper := regOps Tryd.f30 4
noncomputable def l30_4 : List Rop := [⟨some 18, .move (.tmp 9), none⟩,
  ⟨some 19, .move (.tmp 10), none⟩,
  ⟨some 20, .binOp .add 3 (.tmp 18) (.tmp 19) 3, none⟩,
  ⟨some 21, .convert 3 69 (.tmp 20), none⟩,
  ⟨some 22, .binOp .shr 69 (.tmp 21) (.const (.int .u64 1)) 69, none⟩,
  ⟨some 23, .convert 69 3 (.tmp 22), none⟩,
  ⟨some 11, .assign (.tmp 23), none⟩]
theorem r30_4 : o30_4.toList.mapM (resolveG o30_4) = some l30_4 := by kernel_rfl
noncomputable def o30_5 : Array Oper := regOps Tryd.f30 5
noncomputable def l30_5 : List Rop := [⟨some 24, .move (.tmp 2), none⟩,
  ⟨some 25, .move (.tmp 0), none⟩,
  ⟨some 26, .move (.tmp 11), none⟩,
  ⟨some 27, .indexAddr 23 (.tmp 25) (.tmp 26), none⟩,
  ⟨some 28, .load 52 (.tmp 27), none⟩,
  ⟨some 29, .move (.tmp 1), none⟩,
  ⟨some 30, .call ⟨.value (.tmp 24), #[.tmp 28, .tmp 29], #[52, 3]⟩, none⟩,
  ⟨some 31, .binOp .lss 3 (.tmp 30) (.const (.int .i64 0)) 3, none⟩]
theorem r30_5 : o30_5.toList.mapM (resolveG o30_5) = some l30_5 := by kernel_rfl
noncomputable def o30_6 : Array Oper := regOps Tryd.f30 6
noncomputable def l30_6 : List Rop := [⟨some 32, .move (.tmp 11), none⟩,
  ⟨some 33, .binOp .add 3 (.tmp 32) (.const (.int .i64 1)) 3, none⟩,
  ⟨some 9, .assign (.tmp 33), none⟩]
theorem r30_6 : o30_6.toList.mapM (resolveG o30_6) = some l30_6 := by kernel_rfl
noncomputable def o30_7 : Array Oper := regOps Tryd.f30 7
noncomputable def l30_7 : List Rop := [⟨some 34, .move (.tmp 11), none⟩,
  ⟨some 10, .assign (.tmp 34), none⟩]
theorem r30_7 : o30_7.toList.mapM (resolveG o30_7) = some l30_7 := by kernel_rfl
noncomputable def o30_8 : Array Oper := regOps Tryd.f30 8
noncomputable def l30_8 : List Rop := [⟨some 35, .move (.tmp 9), none⟩,
  ⟨some 36, .move (.tmp 9), none⟩,
  ⟨some 37, .move (.tmp 8), none⟩,
  ⟨some 38, .binOp .lss 3 (.tmp 36) (.tmp 37) 3, none⟩,
  ⟨some 39, .move (.tmp 38), none⟩,
  ⟨some 40, .move (.tmp 2), some (39, true)⟩,
  ⟨some 41, .move (.tmp 0), some (39, true)⟩,
  ⟨some 42, .move (.tmp 9), some (39, true)⟩,
  ⟨some 43, .indexAddr 23 (.tmp 41) (.tmp 42), some (39, true)⟩,
  ⟨some 44, .load 52 (.tmp 43), some (39, true)⟩,
  ⟨some 45, .move (.tmp 1), some (39, true)⟩,
  ⟨some 46, .call ⟨.value (.tmp 40), #[.tmp 44, .tmp 45], #[52, 3]⟩, some (39, true)⟩,
  ⟨some 47, .binOp .eql 3 (.tmp 46) (.const (.int .i64 0)) 3, some (39, true)⟩,
  ⟨some 48, .pick (.tmp 39) (.tmp 47) (.const (.bool false)), none⟩,
  ⟨some 6, .assign (.tmp 35), none⟩,
  ⟨some 7, .assign (.tmp 48), none⟩]
theorem r30_8 : o30_8.toList.mapM (resolveG o30_8) = some l30_8 := by kernel_rfl
noncomputable def b30_L0 : Code := Code.seq (Code.seq (Code.region 3 o30_3 false) (Code.cond (Operand.tmp 17) Code.skip (Code.exit 0))) (Code.block 1 (Code.seq (Code.region 4 o30_4 false) (Code.seq (Code.region 5 o30_5 false) (Code.cond (Operand.tmp 31) (Code.region 6 o30_6 false) (Code.region 7 o30_7 false)))))
noncomputable def b30 : Code := (Code.seq (Code.region 0 o30_0 false) (Code.seq (Code.region 1 o30_1 false) (Code.seq (Code.region 2 o30_2 false) (Code.seq (Code.block 0 (Code.loop b30_L0)) (Code.seq (Code.region 8 o30_8 false) Code.ret)))))
theorem b30_eq : Tryd.f30.body = some b30 := by kernel_rfl
noncomputable def o31_0 : Array Oper := regOps Tryd.f31 0
noncomputable def l31_0 : List Rop := [⟨some 2, .box 52 (.tmp 0), none⟩,
  ⟨some 4, .assign (.const (.int .i64 0)), none⟩]
theorem r31_0 : o31_0.toList.mapM (resolveG o31_0) = some l31_0 := by kernel_rfl
noncomputable def o31_1 : Array Oper := regOps Tryd.f31 1
noncomputable def l31_1 : List Rop := [⟨some 5, .fieldAddr 52 (.tmp 2) 0, none⟩,
  ⟨some 6, .load 3 (.tmp 5), none⟩,
  ⟨some 7, .move (.tmp 1), none⟩,
  ⟨some 8, .binOp .sub 3 (.tmp 6) (.tmp 7) 3, none⟩,
  ⟨some 4, .assign (.tmp 8), none⟩]
theorem r31_1 : o31_1.toList.mapM (resolveG o31_1) = some l31_1 := by kernel_rfl
noncomputable def b31 : Code := (Code.seq (Code.region 0 o31_0 false) (Code.seq (Code.region 1 o31_1 false) Code.ret))
theorem b31_eq : Tryd.f31.body = some b31 := by kernel_rfl
noncomputable def o32_0 : Array Oper := regOps Tryd.f32 0
noncomputable def l32_0 : List Rop := [⟨some 4, .assign (.const (.bool false)), none⟩]
theorem r32_0 : o32_0.toList.mapM (resolveG o32_0) = some l32_0 := by kernel_rfl
noncomputable def o32_1 : Array Oper := regOps Tryd.f32 1
noncomputable def l32_1 : List Rop := [⟨some 5, .assign (.const (.int .i64 0)), none⟩]
theorem r32_1 : o32_1.toList.mapM (resolveG o32_1) = some l32_1 := by kernel_rfl
noncomputable def o32_2 : Array Oper := regOps Tryd.f32 2
noncomputable def l32_2 : List Rop := [⟨some 6, .move (.tmp 5), none⟩,
  ⟨some 7, .move (.tmp 0), none⟩,
  ⟨some 8, .call ⟨.builtin .len, #[.tmp 7], #[23]⟩, none⟩,
  ⟨some 9, .binOp .lss 3 (.tmp 6) (.tmp 8) 3, none⟩]
theorem r32_2 : o32_2.toList.mapM (resolveG o32_2) = some l32_2 := by kernel_rfl
noncomputable def o32_4 : Array Oper := regOps Tryd.f32 4
noncomputable def l32_4 : List Rop := [⟨some 12, .move (.tmp 0), none⟩,
  ⟨some 13, .move (.tmp 5), none⟩,
  ⟨some 14, .indexAddr 23 (.tmp 12) (.tmp 13), none⟩,
  ⟨some 15, .fieldAddr 52 (.tmp 14) 0, none⟩,
  ⟨some 16, .load 3 (.tmp 15), none⟩,
  ⟨some 17, .move (.tmp 1), none⟩,
  ⟨some 18, .binOp .quo 3 (.tmp 17) (.const (.int .i64 64)) 3, none⟩,
  ⟨some 19, .binOp .eql 3 (.tmp 16) (.tmp 18) 3, none⟩]
theorem r32_4 : o32_4.toList.mapM (resolveG o32_4) = some l32_4 := by kernel_rfl
noncomputable def o32_5 : Array Oper := regOps Tryd.f32 5
noncomputable def l32_5 : List Rop := [⟨some 20, .move (.tmp 0), none⟩,
  ⟨some 21, .move (.tmp 5), none⟩,
  ⟨some 22, .indexAddr 23 (.tmp 20) (.tmp 21), none⟩,
  ⟨some 23, .fieldAddr 52 (.tmp 22) 1, none⟩,
  ⟨some 24, .load 50 (.tmp 23), none⟩,
  ⟨some 25, .move (.tmp 1), none⟩,
  ⟨some 26, .call ⟨.value (.func 43), #[.tmp 25], #[3]⟩, none⟩,
  ⟨some 27, .binOp .quo 50 (.tmp 24) (.tmp 26) 50, none⟩,
  ⟨some 28, .binOp .rem 50 (.tmp 27) (.const (.int .u64 2)) 50, none⟩,
  ⟨some 29, .binOp .eql 50 (.tmp 28) (.const (.int .u64 1)) 50, none⟩,
  ⟨some 4, .assign (.tmp 29), none⟩]
theorem r32_5 : o32_5.toList.mapM (resolveG o32_5) = some l32_5 := by kernel_rfl
noncomputable def o32_3 : Array Oper := regOps Tryd.f32 3
noncomputable def l32_3 : List Rop := [⟨some 10, .move (.tmp 5), none⟩,
  ⟨some 11, .binOp .add 3 (.tmp 10) (.const (.int .i64 1)) 3, none⟩,
  ⟨some 5, .assign (.tmp 11), none⟩]
theorem r32_3 : o32_3.toList.mapM (resolveG o32_3) = some l32_3 := by kernel_rfl
noncomputable def o32_6 : Array Oper := regOps Tryd.f32 6
noncomputable def l32_6 : List Rop := [⟨some 4, .assign (.const (.bool false)), none⟩]
theorem r32_6 : o32_6.toList.mapM (resolveG o32_6) = some l32_6 := by kernel_rfl
noncomputable def b32_L0 : Code := Code.seq (Code.seq (Code.region 2 o32_2 false) (Code.cond (Operand.tmp 9) Code.skip (Code.exit 0))) (Code.seq (Code.block 1 (Code.seq (Code.region 4 o32_4 false) (Code.cond (Operand.tmp 19) (Code.seq (Code.region 5 o32_5 true) Code.ret) Code.skip))) (Code.region 3 o32_3 false))
noncomputable def b32 : Code := (Code.seq (Code.region 0 o32_0 false) (Code.seq (Code.seq (Code.region 1 o32_1 false) (Code.block 0 (Code.loop b32_L0))) (Code.seq (Code.region 6 o32_6 false) Code.ret)))
theorem b32_eq : Tryd.f32.body = some b32 := by kernel_rfl
noncomputable def o33_0 : Array Oper := regOps Tryd.f33 0
noncomputable def l33_0 : List Rop := [⟨some 2, .assign (.const (.int .i64 0)), none⟩]
theorem r33_0 : o33_0.toList.mapM (resolveG o33_0) = some l33_0 := by kernel_rfl
noncomputable def o33_1 : Array Oper := regOps Tryd.f33 1
noncomputable def l33_1 : List Rop := [⟨some 3, .move (.tmp 0), none⟩,
  ⟨some 4, .binOp .shr 50 (.tmp 3) (.const (.int .u64 1)) 69, none⟩,
  ⟨some 5, .binOp .and 50 (.tmp 4) (.const (.int .u64 6148914691236517205)) 50, none⟩,
  ⟨some 6, .move (.tmp 0), none⟩,
  ⟨some 7, .binOp .and 50 (.tmp 6) (.const (.int .u64 6148914691236517205)) 50, none⟩,
  ⟨some 8, .binOp .add 50 (.tmp 5) (.tmp 7) 50, none⟩,
  ⟨some 0, .assign (.tmp 8), none⟩]
theorem r33_1 : o33_1.toList.mapM (resolveG o33_1) = some l33_1 := by kernel_rfl
noncomputable def o33_2 : Array Oper := regOps Tryd.f33 2
noncomputable def l33_2 : List Rop := [⟨some 9, .move (.tmp 0), none⟩,
  ⟨some 10, .binOp .shr 50 (.tmp 9) (.const (.int .u64 2)) 69, none⟩,
  ⟨some 11, .binOp .and 50 (.tmp 10) (.const (.int .u64 3689348814741910323)) 50, none⟩,
  ⟨some 12, .move (.tmp 0), none⟩,
  ⟨some 13, .binOp .and 50 (.tmp 12) (.const (.int .u64 3689348814741910323)) 50, none⟩,
  ⟨some 14, .binOp .add 50 (.tmp 11) (.tmp 13) 50, none⟩,
  ⟨some 0, .assign (.tmp 14), none⟩]
theorem r33_2 : o33_2.toList.mapM (resolveG o33_2) = some l33_2 := by kernel_rfl
noncomputable def o33_3 : Array Oper := regOps Tryd.f33 3
noncomputable def l33_3 : List Rop := [⟨some 15, .move (.tmp 0), none⟩,
  ⟨some 16, .binOp .shr 50 (.tmp 15) (.const (.int .u64 4)) 69, none⟩,
  ⟨some 17, .move (.tmp 0), none⟩,
  ⟨some 18, .binOp .add 50 (.tmp 16) (.tmp 17) 50, none⟩,
  ⟨some 19, .binOp .and 50 (.tmp 18) (.const (.int .u64 1085102592571150095)) 50, none⟩,
  ⟨some 0, .assign (.tmp 19), none⟩]
theorem r33_3 : o33_3.toList.mapM (resolveG o33_3) = some l33_3 := by kernel_rfl
noncomputable def o33_4 : Array Oper := regOps Tryd.f33 4
noncomputable def l33_4 : List Rop := [⟨some 20, .move (.tmp 0), none⟩,
  ⟨some 21, .move (.tmp 0), none⟩,
  ⟨some 22, .binOp .shr 50 (.tmp 21) (.const (.int .u64 8)) 69, none⟩,
  ⟨some 23, .binOp .add 50 (.tmp 20) (.tmp 22) 50, none⟩,
  ⟨some 0, .assign (.tmp 23), none⟩]
theorem r33_4 : o33_4.toList.mapM (resolveG o33_4) = some l33_4 := by kernel_rfl
noncomputable def o33_5 : Array Oper := regOps Tryd.f33 5
noncomputable def l33_5 : List Rop := [⟨some 24, .move (.tmp 0), none⟩,
  ⟨some 25, .move (.tmp 0), none⟩,
  ⟨some 26, .binOp .shr 50 (.tmp 25) (.const (.int .u64 16)) 69, none⟩,
  ⟨some 27, .binOp .add 50 (.tmp 24) (.tmp 26) 50, none⟩,
  ⟨some 0, .assign (.tmp 27), none⟩]
theorem r33_5 : o33_5.toList.mapM (resolveG o33_5) = some l33_5 := by kernel_rfl
noncomputable def o33_6 : Array Oper := regOps Tryd.f33 6
noncomputable def l33_6 : List Rop := [⟨some 28, .move (.tmp 0), none⟩,
  ⟨some 29, .move (.tmp 0), none⟩,
  ⟨some 30, .binOp .shr 50 (.tmp 29) (.const (.int .u64 32)) 69, none⟩,
  ⟨some 31, .binOp .add 50 (.tmp 28) (.tmp 30) 50, none⟩,
  ⟨some 0, .assign (.tmp 31), none⟩]
theorem r33_6 : o33_6.toList.mapM (resolveG o33_6) = some l33_6 := by kernel_rfl
noncomputable def o33_7 : Array Oper := regOps Tryd.f33 7
noncomputable def l33_7 : List Rop := [⟨some 32, .move (.tmp 0), none⟩,
  ⟨some 33, .convert 50 3 (.tmp 32), none⟩,
  ⟨some 34, .binOp .and 3 (.tmp 33) (.const (.int .i64 127)) 3, none⟩,
  ⟨some 2, .assign (.tmp 34), none⟩]
theorem r33_7 : o33_7.toList.mapM (resolveG o33_7) = some l33_7 := by kernel_rfl
noncomputable def b33 : Code := (Code.seq (Code.region 0 o33_0 false) (Code.seq (Code.region 1 o33_1 false) (Code.seq (Code.region 2 o33_2 false) (Code.seq (Code.region 3 o33_3 false) (Code.seq (Code.region 4 o33_4 false) (Code.seq (Code.region 5 o33_5 false) (Code.seq (Code.region 6 o33_6 false) (Code.seq (Code.region 7 o33_7 false) Code.ret))))))))
theorem b33_eq : Tryd.f33.body = some b33 := by kernel_rfl
noncomputable def o34_0 : Array Oper := regOps Tryd.f34 0
noncomputable def l34_0 : List Rop := [⟨some 4, .assign (.const (.bool false)), none⟩]
theorem r34_0 : o34_0.toList.mapM (resolveG o34_0) = some l34_0 := by kernel_rfl
noncomputable def o34_1 : Array Oper := regOps Tryd.f34 1
noncomputable def l34_1 : List Rop := [⟨some 6, .move (.tmp 0), none⟩,
  ⟨some 7, .call ⟨.builtin .len, #[.tmp 6], #[23]⟩, none⟩,
  ⟨some 8, .move (.tmp 1), none⟩,
  ⟨some 9, .call ⟨.builtin .len, #[.tmp 8], #[23]⟩, none⟩,
  ⟨some 10, .binOp .neq 3 (.tmp 7) (.tmp 9) 3, none⟩]
theorem r34_1 : o34_1.toList.mapM (resolveG o34_1) = some l34_1 := by kernel_rfl
noncomputable def o34_2 : Array Oper := regOps Tryd.f34 2
noncomputable def l34_2 : List Rop := [⟨some 4, .assign (.const (.bool false)), none⟩]
theorem r34_2 : o34_2.toList.mapM (resolveG o34_2) = some l34_2 := by kernel_rfl
noncomputable def o34_3 : Array Oper := regOps Tryd.f34 3
noncomputable def l34_3 : List Rop := [⟨some 11, .move (.tmp 0), none⟩,
  ⟨some 12, .call ⟨.builtin .len, #[.tmp 11], #[23]⟩, none⟩,
  ⟨some 13, .move (.const (.int .i64 0)), none⟩]
theorem r34_3 : o34_3.toList.mapM (resolveG o34_3) = some l34_3 := by kernel_rfl
noncomputable def o34_4 : Array Oper := regOps Tryd.f34 4
noncomputable def l34_4 : List Rop := [⟨some 14, .binOp .lss 3 (.tmp 13) (.tmp 12) 3, none⟩]
theorem r34_4 : o34_4.toList.mapM (resolveG o34_4) = some l34_4 := by kernel_rfl
noncomputable def o34_5 : Array Oper := regOps Tryd.f34 5
noncomputable def l34_5 : List Rop := [⟨some 15, .move (.tmp 13), none⟩,
  ⟨some 5, .assign (.tmp 15), none⟩]
theorem r34_5 : o34_5.toList.mapM (resolveG o34_5) = some l34_5 := by kernel_rfl
noncomputable def o34_6 : Array Oper := regOps Tryd.f34 6
noncomputable def l34_6 : List Rop := [⟨some 16, .move (.tmp 0), none⟩,
  ⟨some 17, .move (.tmp 5), none⟩,
  ⟨some 18, .indexAddr 23 (.tmp 16) (.tmp 17), none⟩,
  ⟨some 19, .load 52 (.tmp 18), none⟩,
  ⟨some 20, .move (.tmp 1), none⟩,
  ⟨some 21, .move (.tmp 5), none⟩,
  ⟨some 22, .indexAddr 23 (.tmp 20) (.tmp 21), none⟩,
  ⟨some 23, .load 52 (.tmp 22), none⟩,
  ⟨some 24, .binOp .neq 52 (.tmp 19) (.tmp 23) 52, none⟩]
theorem r34_6 : o34_6.toList.mapM (resolveG o34_6) = some l34_6 := by kernel_rfl
noncomputable def o34_7 : Array Oper := regOps Tryd.f34 7
noncomputable def l34_7 : List Rop := [⟨some 4, .assign (.const (.bool false)), none⟩]
theorem r34_7 : o34_7.toList.mapM (resolveG o34_7) = some l34_7 := by kernel_rfl
noncomputable def o34_8 : Array Oper := regOps Tryd.f34 8
noncomputable def l34_8 : List Rop := [⟨some 25, .binOp .add 3 (.tmp 13) (.const (.int .i64 1)) 3, none⟩,
  ⟨some 13, .move (.tmp 25), none⟩]
theorem r34_8 : o34_8.toList.mapM (resolveG o34_8) = some l34_8 := by kernel_rfl
noncomputable def o34_9 : Array Oper := regOps Tryd.f34 9
noncomputable def l34_9 : List Rop := [⟨some 4, .assign (.const (.bool true)), none⟩]
theorem r34_9 : o34_9.toList.mapM (resolveG o34_9) = some l34_9 := by kernel_rfl
noncomputable def b34_L0 : Code := Code.seq (Code.region 4 o34_4 false) (Code.seq (Code.cond (Operand.tmp 14) Code.skip (Code.exit 0)) (Code.seq (Code.block 1 (Code.seq (Code.region 5 o34_5 false) (Code.seq (Code.region 6 o34_6 true) (Code.cond (Operand.tmp 24) (Code.seq (Code.region 7 o34_7 false) Code.ret) Code.skip)))) (Code.region 8 o34_8 false)))
noncomputable def b34 : Code := (Code.seq (Code.region 0 o34_0 false) (Code.seq (Code.seq (Code.region 1 o34_1 false) (Code.cond (Operand.tmp 10) (Code.seq (Code.region 2 o34_2 false) Code.ret) Code.skip)) (Code.seq (Code.seq (Code.region 3 o34_3 false) (Code.block 0 (Code.loop b34_L0))) (Code.seq (Code.region 9 o34_9 false) Code.ret))))
theorem b34_eq : Tryd.f34.body = some b34 := by kernel_rfl
noncomputable def o35_0 : Array Oper := regOps Tryd.f35 0
noncomputable def l35_0 : List Rop := [⟨some 5, .box 66 (.tmp 2), none⟩,
  ⟨some 6, .alloc 23, none⟩,
  ⟨some 7, .assign (.const (.int .i64 0)), none⟩]
theorem r35_0 : o35_0.toList.mapM (resolveG o35_0) = some l35_0 := by kernel_rfl
noncomputable def o35_1 : Array Oper := regOps Tryd.f35 1
noncomputable def l35_1 : List Rop := [⟨some 9, .move (.tmp 0), none⟩,
  ⟨some 10, .call ⟨.value (.func 15), #[.tmp 9], #[23]⟩, none⟩,
  ⟨some 11, .move (.tmp 1), none⟩,
  ⟨some 12, .call ⟨.value (.func 15), #[.tmp 11], #[23]⟩, none⟩,
  ⟨some 13, .call ⟨.builtin .max, #[.tmp 10, .tmp 12], #[25, 25]⟩, none⟩,
  ⟨some 8, .assign (.tmp 13), none⟩]
theorem r35_1 : o35_1.toList.mapM (resolveG o35_1) = some l35_1 := by kernel_rfl
noncomputable def o35_2 : Array Oper := regOps Tryd.f35 2
noncomputable def l35_2 : List Rop := [⟨some 14, .move (.tmp 8), none⟩,
  ⟨some 15, .binOp .neq 25 (.tmp 14) (.const (.int .i64 0)) 25, none⟩]
theorem r35_2 : o35_2.toList.mapM (resolveG o35_2) = some l35_2 := by kernel_rfl
noncomputable def o35_3 : Array Oper := regOps Tryd.f35 3
noncomputable def l35_3 : List Rop := [⟨some 16, .move (.tmp 8), none⟩,
  ⟨none, .store 23 (.tmp 6) (.const (.slice none 0 0)), none⟩,
  ⟨some 7, .assign (.tmp 16), none⟩]
theorem r35_3 : o35_3.toList.mapM (resolveG o35_3) = some l35_3 := by kernel_rfl
noncomputable def o35_4 : Array Oper := regOps Tryd.f35 4
noncomputable def l35_4 : List Rop := [⟨some 17, .move (.tmp 0), none⟩,
  ⟨some 18, .move (.tmp 1), none⟩,
  ⟨some 19, .makeFunc (.func 46) #[] #[.tmp 5, .tmp 6], none⟩,
  ⟨some 20, .call ⟨.value (.func 44), #[.tmp 17, .tmp 18, .func 45, .tmp 19], #[22, 22, 72, 73]⟩, none⟩]
theorem r35_4 : o35_4.toList.mapM (resolveG o35_4) = some l35_4 := by kernel_rfl
noncomputable def o35_5 : Array Oper := regOps Tryd.f35 5
noncomputable def l35_5 : List Rop := [⟨some 21, .load 23 (.tmp 6), none⟩,
  ⟨none, .store 23 (.tmp 6) (.tmp 21), none⟩,
  ⟨some 7, .assign (.const (.int .i64 0)), none⟩]
theorem r35_5 : o35_5.toList.mapM (resolveG o35_5) = some l35_5 := by kernel_rfl
noncomputable def b35 : Code := (Code.seq (Code.region 0 o35_0 false) (Code.seq (Code.seq (Code.region 1 o35_1 false) (Code.seq (Code.region 2 o35_2 false) (Code.cond (Operand.tmp 15) (Code.seq (Code.region 3 o35_3 false) Code.ret) Code.skip))) (Code.seq (Code.region 4 o35_4 false) (Code.seq (Code.region 5 o35_5 false) Code.ret))))
theorem b35_eq : Tryd.f35.body = some b35 := by kernel_rfl
noncomputable def o36_0 : Array Oper := regOps Tryd.f36 0
noncomputable def l36_0 : List Rop := [⟨some 4, .assign (.const (.int .u64 0)), none⟩]
theorem r36_0 : o36_0.toList.mapM (resolveG o36_0) = some l36_0 := by kernel_rfl
noncomputable def o36_1 : Array Oper := regOps Tryd.f36 1
noncomputable def l36_1 : List Rop := [⟨some 5, .move (.tmp 0), none⟩,
  ⟨some 6, .move (.tmp 1), none⟩,
  ⟨some 7, .binOp .or 50 (.tmp 5) (.tmp 6) 50, none⟩,
  ⟨some 4, .assign (.tmp 7), none⟩]
theorem r36_1 : o36_1.toList.mapM (resolveG o36_1) = some l36_1 := by kernel_rfl
noncomputable def b36 : Code := (Code.seq (Code.region 0 o36_0 false) (Code.seq (Code.region 1 o36_1 false) Code.ret))
theorem b36_eq : Tryd.f36.body = some b36 := by kernel_rfl
noncomputable def o37_0 : Array Oper := regOps Tryd.f37 0
noncomputable def l37_0 : List Rop := [⟨some 4, .assign (.const (.int .u64 0)), none⟩]
theorem r37_0 : o37_0.toList.mapM (resolveG o37_0) = some l37_0 := by kernel_rfl
noncomputable def o37_1 : Array Oper := regOps Tryd.f37 1
noncomputable def l37_1 : List Rop := [⟨some 5, .move (.tmp 0), none⟩,
  ⟨some 6, .move (.tmp 1), none⟩,
  ⟨some 7, .binOp .and 50 (.tmp 5) (.tmp 6) 50, none⟩,
  ⟨some 4, .assign (.tmp 7), none⟩]
theorem r37_1 : o37_1.toList.mapM (resolveG o37_1) = some l37_1 := by kernel_rfl
noncomputable def b37 : Code := (Code.seq (Code.region 0 o37_0 false) (Code.seq (Code.region 1 o37_1 false) Code.ret))
theorem b37_eq : Tryd.f37.body = some b37 := by kernel_rfl
noncomputable def o38_0 : Array Oper := regOps Tryd.f38 0
noncomputable def l38_0 : List Rop := [⟨some 4, .assign (.const (.int .u64 0)), none⟩]
theorem r38_0 : o38_0.toList.mapM (resolveG o38_0) = some l38_0 := by kernel_rfl
noncomputable def o38_1 : Array Oper := regOps Tryd.f38 1
noncomputable def l38_1 : List Rop := [⟨some 5, .move (.tmp 0), none⟩,
  ⟨some 6, .move (.tmp 1), none⟩,
  ⟨some 7, .binOp .andNot 50 (.tmp 5) (.tmp 6) 50, none⟩,
  ⟨some 4, .assign (.tmp 7), none⟩]
theorem r38_1 : o38_1.toList.mapM (resolveG o38_1) = some l38_1 := by kernel_rfl
noncomputable def b38 : Code := (Code.seq (Code.region 0 o38_0 false) (Code.seq (Code.region 1 o38_1 false) Code.ret))
theorem b38_eq : Tryd.f38.body = some b38 := by kernel_rfl
noncomputable def o39_0 : Array Oper := regOps Tryd.f39 0
noncomputable def l39_0 : List Rop := [⟨some 2, .assign (.const (.slice none 0 0)), none⟩]
theorem r39_0 : o39_0.toList.mapM (resolveG o39_0) = some l39_0 := by kernel_rfl
noncomputable def o39_1 : Array Oper := regOps Tryd.f39 1
noncomputable def l39_1 : List Rop := [⟨some 3, .move (.tmp 0), none⟩,
  ⟨some 4, .binOp .eql 24 (.tmp 3) (.const (.slice none 0 0)) 24, none⟩]
theorem r39_1 : o39_1.toList.mapM (resolveG o39_1) = some l39_1 := by kernel_rfl
noncomputable def o39_2 : Array Oper := regOps Tryd.f39 2
noncomputable def l39_2 : List Rop := [⟨some 2, .assign (.const (.slice none 0 0)), none⟩]
theorem r39_2 : o39_2.toList.mapM (resolveG o39_2) = some l39_2 := by kernel_rfl
noncomputable def o39_3 : Array Oper := regOps Tryd.f39 3
noncomputable def l39_3 : List Rop := [⟨some 5, .buildSlice 24 0 #[], none⟩,
  ⟨some 6, .move (.tmp 0), none⟩,
  ⟨some 7, .call ⟨.builtin .append, #[.tmp 5, .tmp 6], #[24, 24]⟩, none⟩,
  ⟨some 2, .assign (.tmp 7), none⟩]
theorem r39_3 : o39_3.toList.mapM (resolveG o39_3) = some l39_3 := by kernel_rfl
noncomputable def b39 : Code := (Code.seq (Code.region 0 o39_0 false) (Code.seq (Code.seq (Code.region 1 o39_1 false) (Code.cond (Operand.tmp 4) (Code.seq (Code.region 2 o39_2 false) Code.ret) Code.skip)) (Code.seq (Code.region 3 o39_3 false) Code.ret)))
theorem b39_eq : Tryd.f39.body = some b39 := by kernel_rfl
noncomputable def o43_0 : Array Oper := regOps Tryd.f43 0
noncomputable def l43_0 : List Rop := [⟨some 2, .assign (.const (.int .u64 0)), none⟩]
theorem r43_0 : o43_0.toList.mapM (resolveG o43_0) = some l43_0 := by kernel_rfl
noncomputable def o43_1 : Array Oper := regOps Tryd.f43 1
noncomputable def l43_1 : List Rop := [⟨some 3, .assign (.const (.int .u64 1)), none⟩]
theorem r43_1 : o43_1.toList.mapM (resolveG o43_1) = some l43_1 := by kernel_rfl
noncomputable def o43_2 : Array Oper := regOps Tryd.f43 2
noncomputable def l43_2 : List Rop := [⟨some 4, .assign (.const (.int .i64 0)), none⟩]
theorem r43_2 : o43_2.toList.mapM (resolveG o43_2) = some l43_2 := by kernel_rfl
noncomputable def o43_3 : Array Oper := regOps Tryd.f43 3
noncomputable def l43_3 : List Rop := [⟨some 5, .move (.tmp 4), none⟩,
  ⟨some 6, .move (.tmp 0), none⟩,
  ⟨some 7, .binOp .rem 3 (.tmp 6) (.const (.int .i64 64)) 3, none⟩,
  ⟨some 8, .binOp .lss 3 (.tmp 5) (.tmp 7) 3, none⟩]
theorem r43_3 : o43_3.toList.mapM (resolveG o43_3) = some l43_3 := by kernel_rfl
noncomputable def o43_5 : Array Oper := regOps Tryd.f43 5
noncomputable def l43_5 : List Rop := [⟨some 11, .move (.tmp 3), none⟩,
  ⟨some 12, .binOp .mul 50 (.const (.int .u64 2)) (.tmp 11) 50, none⟩,
  ⟨some 3, .assign (.tmp 12), none⟩]
theorem r43_5 : o43_5.toList.mapM (resolveG o43_5) = some l43_5 := by kernel_rfl
noncomputable def o43_4 : Array Oper := regOps Tryd.f43 4
noncomputable def l43_4 : List Rop := [⟨some 9, .move (.tmp 4), none⟩,
  ⟨some 10, .binOp .add 3 (.tmp 9) (.const (.int .i64 1)) 3, none⟩,
  ⟨some 4, .assign (.tmp 10), none⟩]
theorem r43_4 : o43_4.toList.mapM (resolveG o43_4) = some l43_4 := by kernel_rfl
noncomputable def o43_6 : Array Oper := regOps Tryd.f43 6
noncomputable def l43_6 : List Rop := [⟨some 13, .move (.tmp 3), none⟩,
  ⟨some 2, .assign (.tmp 13), none⟩]
theorem r43_6 : o43_6.toList.mapM (resolveG o43_6) = some l43_6 := by kernel_rfl
noncomputable def b43_L0 : Code := Code.seq (Code.seq (Code.region 3 o43_3 false) (Code.cond (Operand.tmp 8) Code.skip (Code.exit 0))) (Code.seq (Code.block 1 (Code.region 5 o43_5 false)) (Code.region 4 o43_4 false))
noncomputable def b43 : Code := (Code.seq (Code.region 0 o43_0 false) (Code.seq (Code.region 1 o43_1 false) (Code.seq (Code.seq (Code.region 2 o43_2 false) (Code.block 0 (Code.loop b43_L0))) (Code.seq (Code.region 6 o43_6 false) Code.ret))))
theorem b43_eq : Tryd.f43.body = some b43 := by kernel_rfl
noncomputable def o44_0 : Array Oper := regOps Tryd.f44 0
noncomputable def l44_0 : List Rop := [⟨some 8, .alloc 52, none⟩]
theorem r44_0 : o44_0.toList.mapM (resolveG o44_0) = some l44_0 := by kernel_rfl
noncomputable def o44_1 : Array Oper := regOps Tryd.f44 1
noncomputable def l44_1 : List Rop := [⟨some 9, .move (.tmp 0), none⟩,
  ⟨some 10, .call ⟨.builtin .len, #[.tmp 9], #[22]⟩, none⟩,
  ⟨some 11, .binOp .gtr 3 (.tmp 10) (.const (.int .i64 0)) 3, none⟩,
  ⟨some 12, .move (.tmp 11), none⟩,
  ⟨some 13, .move (.tmp 1), some (12, false)⟩,
  ⟨some 14, .call ⟨.builtin .len, #[.tmp 13], #[22]⟩, some (12, false)⟩,
  ⟨some 15, .binOp .gtr 3 (.tmp 14) (.const (.int .i64 0)) 3, some (12, false)⟩,
  ⟨some 16, .pick (.tmp 12) (.const (.bool true)) (.tmp 15), none⟩]
theorem r44_1 : o44_1.toList.mapM (resolveG o44_1) = some l44_1 := by kernel_rfl
noncomputable def o44_4 : Array Oper := regOps Tryd.f44 4
noncomputable def l44_4 : List Rop := [⟨some 35, .move (.tmp 1), none⟩,
  ⟨some 36, .call ⟨.builtin .len, #[.tmp 35], #[22]⟩, none⟩,
  ⟨some 37, .binOp .eql 3 (.tmp 36) (.const (.int .i64 0)) 3, none⟩,
  ⟨some 38, .move (.tmp 37), none⟩,
  ⟨some 39, .move (.tmp 0), some (38, false)⟩,
  ⟨some 40, .call ⟨.builtin .len, #[.tmp 39], #[22]⟩, some (38, false)⟩,
  ⟨some 41, .binOp .gtr 3 (.tmp 40) (.const (.int .i64 0)) 3, some (38, false)⟩,
  ⟨some 42, .move (.tmp 41), some (38, false)⟩,
  ⟨some 43, .move (.tmp 2), some (42, true)⟩,
  ⟨some 44, .move (.tmp 0), some (42, true)⟩,
  ⟨some 45, .indexAddr 22 (.tmp 44) (.const (.int .i64 0)), some (42, true)⟩,
  ⟨some 46, .load 52 (.tmp 45), some (42, true)⟩,
  ⟨some 47, .call ⟨.value (.tmp 43), #[.tmp 46], #[52]⟩, some (42, true)⟩,
  ⟨some 48, .move (.tmp 2), some (42, true)⟩,
  ⟨some 49, .move (.tmp 1), some (42, true)⟩,
  ⟨some 50, .indexAddr 22 (.tmp 49) (.const (.int .i64 0)), some (42, true)⟩,
  ⟨some 51, .load 52 (.tmp 50), some (42, true)⟩,
  ⟨some 52, .call ⟨.value (.tmp 48), #[.tmp 51], #[52]⟩, some (42, true)⟩,
  ⟨some 53, .binOp .lss 3 (.tmp 47) (.tmp 52) 3, some (42, true)⟩,
  ⟨some 54, .pick (.tmp 42) (.tmp 53) (.const (.bool false)), some (38, false)⟩,
  ⟨some 55, .pick (.tmp 38) (.const (.bool true)) (.tmp 54), none⟩,
  ⟨some 34, .assign (.tmp 55), none⟩]
theorem r44_4 : o44_4.toList.mapM (resolveG o44_4) = some l44_4 := by kernel_rfl
noncomputable def o44_5 : Array Oper := regOps Tryd.f44 5
noncomputable def l44_5 : List Rop := [⟨some 56, .move (.tmp 3), none⟩,
  ⟨some 57, .move (.tmp 0), none⟩,
  ⟨some 58, .indexAddr 22 (.tmp 57) (.const (.int .i64 0)), none⟩,
  ⟨some 59, .load 52 (.tmp 58), none⟩,
  ⟨some 60, .load 52 (.tmp 8), none⟩,
  ⟨some 61, .move (.tmp 2), none⟩,
  ⟨some 62, .move (.tmp 0), none⟩,
  ⟨some 63, .indexAddr 22 (.tmp 62) (.const (.int .i64 0)), none⟩,
  ⟨some 64, .load 52 (.tmp 63), none⟩,
  ⟨some 65, .call ⟨.value (.tmp 61), #[.tmp 64], #[52]⟩, none⟩,
  ⟨some 66, .call ⟨.value (.tmp 56), #[.tmp 59, .tmp 60, .tmp 65], #[52, 52, 3]⟩, none⟩]
theorem r44_5 : o44_5.toList.mapM (resolveG o44_5) = some l44_5 := by kernel_rfl
noncomputable def o44_6 : Array Oper := regOps Tryd.f44 6
noncomputable def l44_6 : List Rop := [⟨some 67, .move (.tmp 0), none⟩,
  ⟨some 68, .slice 22 (.tmp 67) (some (.const (.int .i64 1))) none none, none⟩,
  ⟨some 0, .assign (.tmp 68), none⟩]
theorem r44_6 : o44_6.toList.mapM (resolveG o44_6) = some l44_6 := by kernel_rfl
noncomputable def o44_7 : Array Oper := regOps Tryd.f44 7
noncomputable def l44_7 : List Rop := [⟨some 70, .move (.tmp 0), none⟩,
  ⟨some 71, .call ⟨.builtin .len, #[.tmp 70], #[22]⟩, none⟩,
  ⟨some 72, .binOp .eql 3 (.tmp 71) (.const (.int .i64 0)) 3, none⟩,
  ⟨some 73, .move (.tmp 72), none⟩,
  ⟨some 74, .move (.tmp 2), some (73, false)⟩,
  ⟨some 75, .move (.tmp 1), some (73, false)⟩,
  ⟨some 76, .indexAddr 22 (.tmp 75) (.const (.int .i64 0)), some (73, false)⟩,
  ⟨some 77, .load 52 (.tmp 76), some (73, false)⟩,
  ⟨some 78, .call ⟨.value (.tmp 74), #[.tmp 77], #[52]⟩, some (73, false)⟩,
  ⟨some 79, .move (.tmp 2), some (73, false)⟩,
  ⟨some 80, .move (.tmp 0), some (73, false)⟩,
  ⟨some 81, .indexAddr 22 (.tmp 80) (.const (.int .i64 0)), some (73, false)⟩,
  ⟨some 82, .load 52 (.tmp 81), some (73, false)⟩,
  ⟨some 83, .call ⟨.value (.tmp 79), #[.tmp 82], #[52]⟩, some (73, false)⟩,
  ⟨some 84, .binOp .lss 3 (.tmp 78) (.tmp 83) 3, some (73, false)⟩,
  ⟨some 85, .pick (.tmp 73) (.const (.bool true)) (.tmp 84), none⟩,
  ⟨some 69, .assign (.tmp 85), none⟩]
theorem r44_7 : o44_7.toList.mapM (resolveG o44_7) = some l44_7 := by kernel_rfl
noncomputable def o44_8 : Array Oper := regOps Tryd.f44 8
noncomputable def l44_8 : List Rop := [⟨some 86, .move (.tmp 3), none⟩,
  ⟨some 87, .load 52 (.tmp 8), none⟩,
  ⟨some 88, .move (.tmp 1), none⟩,
  ⟨some 89, .indexAddr 22 (.tmp 88) (.const (.int .i64 0)), none⟩,
  ⟨some 90, .load 52 (.tmp 89), none⟩,
  ⟨some 91, .move (.tmp 2), none⟩,
  ⟨some 92, .move (.tmp 1), none⟩,
  ⟨some 93, .indexAddr 22 (.tmp 92) (.const (.int .i64 0)), none⟩,
  ⟨some 94, .load 52 (.tmp 93), none⟩,
  ⟨some 95, .call ⟨.value (.tmp 91), #[.tmp 94], #[52]⟩, none⟩,
  ⟨some 96, .call ⟨.value (.tmp 86), #[.tmp 87, .tmp 90, .tmp 95], #[52, 52, 3]⟩, none⟩]
theorem r44_8 : o44_8.toList.mapM (resolveG o44_8) = some l44_8 := by kernel_rfl
noncomputable def o44_9 : Array Oper := regOps Tryd.f44 9
noncomputable def l44_9 : List Rop := [⟨some 97, .move (.tmp 1), none⟩,
  ⟨some 98, .slice 22 (.tmp 97) (some (.const (.int .i64 1))) none none, none⟩,
  ⟨some 1, .assign (.tmp 98), none⟩]
theorem r44_9 : o44_9.toList.mapM (resolveG o44_9) = some l44_9 := by kernel_rfl
noncomputable def o44_2 : Array Oper := regOps Tryd.f44 2
noncomputable def l44_2 : List Rop := [⟨some 17, .move (.tmp 3), none⟩,
  ⟨some 18, .move (.tmp 0), none⟩,
  ⟨some 19, .indexAddr 22 (.tmp 18) (.const (.int .i64 0)), none⟩,
  ⟨some 20, .load 52 (.tmp 19), none⟩,
  ⟨some 21, .move (.tmp 1), none⟩,
  ⟨some 22, .indexAddr 22 (.tmp 21) (.const (.int .i64 0)), none⟩,
  ⟨some 23, .load 52 (.tmp 22), none⟩,
  ⟨some 24, .move (.tmp 2), none⟩,
  ⟨some 25, .move (.tmp 0), none⟩,
  ⟨some 26, .indexAddr 22 (.tmp 25) (.const (.int .i64 0)), none⟩,
  ⟨some 27, .load 52 (.tmp 26), none⟩,
  ⟨some 28, .call ⟨.value (.tmp 24), #[.tmp 27], #[52]⟩, none⟩,
  ⟨some 29, .call ⟨.value (.tmp 17), #[.tmp 20, .tmp 23, .tmp 28], #[52, 52, 3]⟩, none⟩]
theorem r44_2 : o44_2.toList.mapM (resolveG o44_2) = some l44_2 := by kernel_rfl
noncomputable def o44_3 : Array Oper := regOps Tryd.f44 3
noncomputable def l44_3 : List Rop := [⟨some 30, .move (.tmp 0), none⟩,
  ⟨some 31, .slice 22 (.tmp 30) (some (.const (.int .i64 1))) none none, none⟩,
  ⟨some 32, .move (.tmp 1), none⟩,
  ⟨some 33, .slice 22 (.tmp 32) (some (.const (.int .i64 1))) none none, none⟩,
  ⟨some 0, .assign (.tmp 31), none⟩,
  ⟨some 1, .assign (.tmp 33), none⟩]
theorem r44_3 : o44_3.toList.mapM (resolveG o44_3) = some l44_3 := by kernel_rfl
noncomputable def b44_L0 : Code := Code.seq (Code.seq (Code.region 1 o44_1 false) (Code.cond (Operand.tmp 16) Code.skip (Code.exit 0))) (Code.block 1 (Code.block 2 (Code.seq (Code.region 4 o44_4 true) (Code.cond (Operand.tmp 34) (Code.seq (Code.region 5 o44_5 true) (Code.region 6 o44_6 false)) (Code.seq (Code.region 7 o44_7 true) (Code.cond (Operand.tmp 69) (Code.seq (Code.region 8 o44_8 true) (Code.region 9 o44_9 false)) (Code.seq (Code.region 2 o44_2 true) (Code.region 3 o44_3 true))))))))
noncomputable def b44 : Code := (Code.seq (Code.region 0 o44_0 false) (Code.block 0 (Code.loop b44_L0)))
theorem b44_eq : Tryd.f44.body = some b44 := by kernel_rfl
noncomputable def o45_0 : Array Oper := regOps Tryd.f45 0
noncomputable def l45_0 : List Rop := [⟨some 1, .box 52 (.tmp 0), none⟩,
  ⟨some 2, .assign (.const (.int .i64 0)), none⟩]
theorem r45_0 : o45_0.toList.mapM (resolveG o45_0) = some l45_0 := by kernel_rfl
noncomputable def o45_1 : Array Oper := regOps Tryd.f45 1
noncomputable def l45_1 : List Rop := [⟨some 3, .fieldAddr 52 (.tmp 1) 0, none⟩,
  ⟨some 4, .load 3 (.tmp 3), none⟩,
  ⟨some 2, .assign (.tmp 4), none⟩]
theorem r45_1 : o45_1.toList.mapM (resolveG o45_1) = some l45_1 := by kernel_rfl
noncomputable def b45 : Code := (Code.seq (Code.region 0 o45_0 false) (Code.seq (Code.region 1 o45_1 false) Code.ret))
theorem b45_eq : Tryd.f45.body = some b45 := by kernel_rfl
noncomputable def o46_0 : Array Oper := regOps Tryd.f46 0
noncomputable def l46_0 : List Rop := [⟨some 5, .box 52 (.tmp 0), none⟩,
  ⟨some 6, .box 52 (.tmp 1), none⟩]
theorem r46_0 : o46_0.toList.mapM (resolveG o46_0) = some l46_0 := by kernel_rfl
noncomputable def o46_1 : Array Oper := regOps Tryd.f46 1
noncomputable def l46_1 : List Rop := [⟨some 9, .load 66 (.tmp 3), none⟩,
  ⟨some 10, .fieldAddr 52 (.tmp 5) 1, none⟩,
  ⟨some 11, .load 50 (.tmp 10), none⟩,
  ⟨some 12, .fieldAddr 52 (.tmp 6) 1, none⟩,
  ⟨some 13, .load 50 (.tmp 12), none⟩,
  ⟨some 14, .call ⟨.value (.tmp 9), #[.tmp 11, .tmp 13], #[50, 50]⟩, none⟩,
  ⟨some 8, .assign (.tmp 14), none⟩]
theorem r46_1 : o46_1.toList.mapM (resolveG o46_1) = some l46_1 := by kernel_rfl
noncomputable def o46_2 : Array Oper := regOps Tryd.f46 2
noncomputable def l46_2 : List Rop := [⟨some 15, .move (.tmp 8), none⟩,
  ⟨some 16, .binOp .neq 50 (.tmp 15) (.const (.int .u64 0)) 50, none⟩]
theorem r46_2 : o46_2.toList.mapM (resolveG o46_2) = some l46_2 := by kernel_rfl
noncomputable def o46_3 : Array Oper := regOps Tryd.f46 3
noncomputable def l46_3 : List Rop := [⟨some 17, .load 23 (.tmp 4), none⟩,
  ⟨some 18, .move (.tmp 2), none⟩,
  ⟨some 19, .move (.tmp 8), none⟩,
  ⟨some 20, .build 52 #[(0, .tmp 18), (1, .tmp 19)], none⟩,
  ⟨some 21, .buildSlice 23 1 #[(0, .tmp 20)], none⟩,
  ⟨some 22, .call ⟨.builtin .append, #[.tmp 17, .tmp 21], #[23, 23]⟩, none⟩,
  ⟨none, .store 23 (.tmp 4) (.tmp 22), none⟩]
theorem r46_3 : o46_3.toList.mapM (resolveG o46_3) = some l46_3 := by kernel_rfl
noncomputable def b46 : Code := (Code.seq (Code.region 0 o46_0 false) (Code.seq (Code.region 1 o46_1 false) (Code.seq (Code.region 2 o46_2 false) (Code.cond (Operand.tmp 16) (Code.region 3 o46_3 false) Code.skip))))
theorem b46_eq : Tryd.f46.body = some b46 := by kernel_rfl
end Go.Proofs.YtjcgaelibiiiiaaDoor
