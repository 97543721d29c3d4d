import Derived.Test.YtjcgaelibiiiiaaDoorProg
import Derived.Test.YtjcgaelibiiiiaaDoorAbsWp
import Derived.KernelRfl
set_option linter.unusedVariables false
namespace Go.Proofs.YtjcgaelibiiiiaaDoor
open Go.Abs
noncomputable def o15_0 : Array Oper := regOps Tryd.f15 0
noncomputable def l15_0 : List Rop := [⟨some 2, .assign (.const (.int .i64 0)), none⟩]
theorem r15_0 : o15_0.toList.mapM (resolveG o15_0) = some l15_0 := by kernel_rfl
noncomputable def o15_1 : Array Oper := regOps Tryd.f15 1
noncomputable def l15_1 : List Rop := [⟨some 3, .assign (.const (.int .i64 (-1))), none⟩]
theorem r15_1 : o15_1.toList.mapM (resolveG o15_1) = some l15_1 := by kernel_rfl
noncomputable def o15_2 : Array Oper := regOps Tryd.f15 2
noncomputable def l15_2 : List Rop := [⟨some 6, .move (.tmp 0), none⟩,
  ⟨some 7, .call ⟨.builtin .len, #[.tmp 6], #[23]⟩, none⟩,
  ⟨some 8, .move (.const (.int .i64 0)), none⟩]
theorem r15_2 : o15_2.toList.mapM (resolveG o15_2) = some l15_2 := by kernel_rfl
noncomputable def o15_3 : Array Oper := regOps Tryd.f15 3
noncomputable def l15_3 : List Rop := [⟨some 9, .binOp .lss 3 (.tmp 8) (.tmp 7) 3, none⟩]
theorem r15_3 : o15_3.toList.mapM (resolveG o15_3) = some l15_3 := by kernel_rfl
noncomputable def o15_4 : Array Oper := regOps Tryd.f15 4
noncomputable def l15_4 : List Rop := [⟨some 10, .indexAddr 23 (.tmp 6) (.tmp 8), none⟩,
  ⟨some 11, .load 52 (.tmp 10), none⟩,
  ⟨some 5, .alloc 52, none⟩,
  ⟨none, .store 52 (.tmp 5) (.tmp 11), none⟩]
theorem r15_4 : o15_4.toList.mapM (resolveG o15_4) = some l15_4 := by kernel_rfl
noncomputable def o15_5 : Array Oper := regOps Tryd.f15 5
noncomputable def l15_5 : List Rop := [⟨some 12, .fieldAddr 52 (.tmp 5) 0, none⟩,
  ⟨some 13, .load 3 (.tmp 12), none⟩,
  ⟨some 14, .move (.tmp 3), none⟩,
  ⟨some 15, .binOp .leq 3 (.tmp 13) (.tmp 14) 3, none⟩,
  ⟨some 16, .move (.tmp 15), none⟩,
  ⟨some 17, .fieldAddr 52 (.tmp 5) 0, some (16, false)⟩,
  ⟨some 18, .load 3 (.tmp 17), some (16, false)⟩,
  ⟨some 19, .binOp .geq 3 (.tmp 18) (.const (.int .i64 16384)) 3, some (16, false)⟩,
  ⟨some 20, .pick (.tmp 16) (.const (.bool true)) (.tmp 19), none⟩,
  ⟨some 21, .move (.tmp 20), none⟩,
  ⟨some 22, .fieldAddr 52 (.tmp 5) 1, some (21, false)⟩,
  ⟨some 23, .load 50 (.tmp 22), some (21, false)⟩,
  ⟨some 24, .binOp .eql 50 (.tmp 23) (.const (.int .u64 0)) 50, some (21, false)⟩,
  ⟨some 25, .pick (.tmp 21) (.const (.bool true)) (.tmp 24), none⟩]
theorem r15_5 : o15_5.toList.mapM (resolveG o15_5) = some l15_5 := by kernel_rfl
noncomputable def o15_6 : Array Oper := regOps Tryd.f15 6
noncomputable def l15_6 : List Rop := [⟨some 2, .assign (.const (.int .i64 8)), none⟩]
theorem r15_6 : o15_6.toList.mapM (resolveG o15_6) = some l15_6 := by kernel_rfl
noncomputable def o15_7 : Array Oper := regOps Tryd.f15 7
noncomputable def l15_7 : List Rop := [⟨some 26, .fieldAddr 52 (.tmp 5) 0, none⟩,
  ⟨some 27, .load 3 (.tmp 26), none⟩,
  ⟨some 3, .assign (.tmp 27), none⟩]
theorem r15_7 : o15_7.toList.mapM (resolveG o15_7) = some l15_7 := by kernel_rfl
noncomputable def o15_8 : Array Oper := regOps Tryd.f15 8
noncomputable def l15_8 : List Rop := [⟨some 28, .binOp .add 3 (.tmp 8) (.const (.int .i64 1)) 3, none⟩,
  ⟨some 8, .move (.tmp 28), none⟩]
theorem r15_8 : o15_8.toList.mapM (resolveG o15_8) = some l15_8 := by kernel_rfl
noncomputable def o15_9 : Array Oper := regOps Tryd.f15 9
noncomputable def l15_9 : List Rop := [⟨some 2, .assign (.const (.int .i64 0)), none⟩]
theorem r15_9 : o15_9.toList.mapM (resolveG o15_9) = some l15_9 := by kernel_rfl
noncomputable def b15_L0 : Code := Code.seq (Code.region 3 o15_3 false) (Code.seq (Code.cond (Operand.tmp 9) Code.skip (Code.exit 0)) (Code.seq (Code.block 1 (Code.seq (Code.region 4 o15_4 false) (Code.seq (Code.seq (Code.region 5 o15_5 false) (Code.cond (Operand.tmp 25) (Code.seq (Code.region 6 o15_6 false) Code.ret) Code.skip)) (Code.region 7 o15_7 false)))) (Code.region 8 o15_8 false)))
noncomputable def b15 : Code := (Code.seq (Code.region 0 o15_0 false) (Code.seq (Code.region 1 o15_1 false) (Code.seq (Code.seq (Code.region 2 o15_2 false) (Code.block 0 (Code.loop b15_L0))) (Code.seq (Code.region 9 o15_9 false) Code.ret))))
theorem b15_eq : Tryd.f15.body = some b15 := by kernel_rfl
end Go.Proofs.YtjcgaelibiiiiaaDoor
