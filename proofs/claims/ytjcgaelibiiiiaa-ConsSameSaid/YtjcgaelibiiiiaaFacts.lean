/-
  What the environment answers, each a closed fact. By this seat's own program.
-/
import Derived.Test.YtjcgaelibiiiiaaCode
import Derived.Test.YtjcgaelibiiiiaaAbsLaw
set_option linter.unusedVariables false
namespace Go.Proofs.Ytjcgaelibiiiiaa
open Go.Abs
noncomputable def marks : Marks := {}
noncomputable def E : Env := envOf Try.prog marks
@[simp] theorem e_E_isAgg_23 : E.isAgg 23 = some false := by kernel_rfl
@[simp] theorem e_E_isAgg_25 : E.isAgg 25 = some true := by kernel_rfl
@[simp] theorem e_E_isAgg_3 : E.isAgg 3 = some false := by kernel_rfl
@[simp] theorem e_E_isAgg_5 : E.isAgg 5 = some false := by kernel_rfl
@[simp] theorem e_E_size_23 : E.size 23 = some 1 := by kernel_rfl
@[simp] theorem e_E_size_25 : E.size 25 = some 5 := by kernel_rfl
@[simp] theorem e_E_size_3 : E.size 3 = some 1 := by kernel_rfl
@[simp] theorem e_E_size_5 : E.size 5 = some 1 := by kernel_rfl
@[simp] theorem e_E_under_22 : E.under 22 = some (TypeDesc.slice 25) := by kernel_rfl
@[simp] theorem e_E_under_23 : E.under 23 = some (TypeDesc.slice 3) := by kernel_rfl
@[simp] theorem e_E_under_3 : E.under 3 = some (TypeDesc.int IntKind.i64) := by kernel_rfl
@[simp] theorem e_E_under_4 : E.under 4 = some TypeDesc.bool := by kernel_rfl
@[simp] theorem e_E_under_5 : E.under 5 = some (TypeDesc.int IntKind.u8) := by kernel_rfl
@[simp] theorem e_E_zero_25 : E.zero 25 = some [AVal.raw (Value.int IntKind.u8 (0)), AVal.raw (Value.int IntKind.i64 (0)), AVal.raw (Value.int IntKind.i64 (0)), AVal.raw (Value.int IntKind.i64 (0)), AVal.e0] := by kernel_rfl
@[simp] theorem e_fieldOf_E_25_0 : fieldOf E 25 0 = some (0, 1, 5) := by kernel_rfl
@[simp] theorem e_fieldOf_E_25_1 : fieldOf E 25 1 = some (1, 1, 3) := by kernel_rfl
@[simp] theorem e_fieldOf_E_25_2 : fieldOf E 25 2 = some (2, 1, 3) := by kernel_rfl
@[simp] theorem e_fieldOf_E_25_3 : fieldOf E 25 3 = some (3, 1, 3) := by kernel_rfl
@[simp] theorem e_fieldOf_E_25_4 : fieldOf E 25 4 = some (4, 1, 23) := by kernel_rfl
end Go.Proofs.Ytjcgaelibiiiiaa
