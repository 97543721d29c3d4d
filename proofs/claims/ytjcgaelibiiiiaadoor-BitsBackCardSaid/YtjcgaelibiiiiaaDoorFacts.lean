/-
  What the environment answers, each a closed fact; bits.List as a Lean function. By this seat's own program.
-/
import Derived.Test.YtjcgaelibiiiiaaDoorCode
import Derived.Test.YtjcgaelibiiiiaaDoorAbsLaw
import Derived.Lib.TrailingZeros
import Derived.Test.YtjcgaelibiiiiaaDoorNums
set_option linter.unusedVariables false
namespace Go.Proofs.YtjcgaelibiiiiaaDoor
open Go.Abs
def effs : List Nat := [40, 44, 46, 47, 49]
def sites : List (Nat × Nat) := [(24, 11), (35, 5), (35, 6), (46, 22)]
def pures : List (Nat × Nat) := [(3, 31), (9, 8), (13, 8), (3, 41), (3, 34), (4, 59), (4, 65), (4, 71), (5, 41), (5, 48), (6, 78), (6, 84), (6, 90), (6, 96), (6, 102), (6, 108), (6, 114), (6, 120), (6, 126), (6, 132), (6, 138), (6, 144)]
def cellsI : List (List AVal) → Option (List Int)
  | [] => some []
  | [.raw (.int _ z)] :: l => (cellsI l).map (z :: ·)
  | _ => none
def words : List (List AVal) → Option (List (Int × Int))
  | [] => some []
  | [.raw (.int .i64 z), .raw (.int .u64 y)] :: l => (words l).map ((z, y) :: ·)
  | _ => none
def goodI : Int → List (Int × Int) → Bool
  | _, [] => true
  | last, (a, b) :: l => decide (last < a) && decide (a < 16384) && decide (b ≠ 0) && goodI a l
def natW (ws : List (Int × Int)) : List (Nat × Nat) := ws.map fun p => (p.1.toNat, p.2.toNat)
def listF : List AVal → Nat → GS → Option (List RV × GS)
  | [.sl es], _, gs => (words es).bind fun ws =>
    if goodI (-1) ws then
      if ws.all (fun p => decide (0 ≤ p.2) && decide (p.2 < 18446744073709551616)) && decide (ws.length ≤ 16384) then
        some ([.v (.sl ((numsA (natW ws)).map fun z => [.raw (.int .i64 z)])), .v (.raw (.int .i64 0))], gs)
      else none
    else if ws.length < 9223372036854775808 then some ([.v (.sl []), .v (.raw (.int .i64 8))], gs) else none
  | _, _, _ => none
abbrev ExtF := Nat → Option (List AVal → Nat → GS → Option (List RV × GS))
noncomputable def marksX (x : ExtF) : Marks := { globals := fun g => if g = 0 then some (Lib.deBruijn64tab.map fun (n : Nat) => .raw (.int .u8 n)) else none, eff := fun f => effs.contains f, site := fun f d => sites.contains (f, d), pureApp := fun f d => pures.contains (f, d), ext := x }
noncomputable def EX (x : ExtF) : Env := envOf Tryd.prog (marksX x)
def ints64 : List (List AVal) → Option (List Int)
  | [] => some []
  | [.raw (.int .i64 z)] :: l => (ints64 l).map (z :: ·)
  | _ => none
def insI (z : Int) : List Int → List Int
  | [] => [z]
  | y :: l => if z ≤ y then z :: y :: l else y :: insI z l
def sortI : List Int → List Int
  | [] => []
  | z :: l => insI z (sortI l)
def cellsOfI (l : List Int) : List (List AVal) := l.map fun z => [.raw (.int .i64 z)]
/-- slices.Clone. -/
def cloneF : List AVal → Nat → GS → Option (List RV × GS)
  | [.sl es], _, gs => (ints64 es).bind fun zs => if zs.length ≤ 1000000 then (if es.isEmpty then some ([.v (.sl [])], gs) else some ([.row 1 es], gs)) else none
  | _, _, _ => none
/-- slices.Sort, of nothing or of a row that calls share. -/
def sortF : List AVal → Nat → GS → Option (List RV × GS)
  | [.sl []], _, gs => some ([], gs)
  | [.hs (.glob n) g 0 k], base, gs =>
    let x := gs.G.get .none n
    if x.gen = g && decide (base ≤ n) then
      match x.st with
      | .row 1 es => if es.length = k && decide (k ≤ 1000000) then (ints64 es).map fun zs => ([], { gs with G := gs.G.set .none n ⟨g, .row 1 (cellsOfI (sortI zs))⟩ }) else none
      | _ => none
    else none
  | _, _, _ => none
/-- bits.List, slices.Clone and slices.Sort by their contracts. -/
def extL : ExtF := fun f => if f = 8 then some listF else if f = 39 then some cloneF else if f = 40 then some sortF else none
@[simp] theorem e_E_isAgg_3 (x : ExtF) : (EX x).isAgg 3 = some false := by kernel_rfl
@[simp] theorem e_E_isAgg_50 (x : ExtF) : (EX x).isAgg 50 = some false := by kernel_rfl
@[simp] theorem e_E_isAgg_52 (x : ExtF) : (EX x).isAgg 52 = some true := by kernel_rfl
@[simp] theorem e_E_size_3 (x : ExtF) : (EX x).size 3 = some 1 := by kernel_rfl
@[simp] theorem e_E_size_50 (x : ExtF) : (EX x).size 50 = some 1 := by kernel_rfl
@[simp] theorem e_E_size_52 (x : ExtF) : (EX x).size 52 = some 2 := by kernel_rfl
@[simp] theorem e_E_under_23 (x : ExtF) : (EX x).under 23 = some (TypeDesc.slice 52) := by kernel_rfl
@[simp] theorem e_E_under_3 (x : ExtF) : (EX x).under 3 = some (TypeDesc.int IntKind.i64) := by kernel_rfl
@[simp] theorem e_E_under_50 (x : ExtF) : (EX x).under 50 = some (TypeDesc.int IntKind.u64) := by kernel_rfl
@[simp] theorem e_E_zero_52 (x : ExtF) : (EX x).zero 52 = some [AVal.raw (Value.int IntKind.i64 (0)), AVal.raw (Value.int IntKind.u64 (0))] := by kernel_rfl
@[simp] theorem e_fieldOf_E_52_0 (x : ExtF) : fieldOf (EX x) 52 0 = some (0, 1, 3) := by kernel_rfl
@[simp] theorem e_fieldOf_E_52_1 (x : ExtF) : fieldOf (EX x) 52 1 = some (1, 1, 50) := by kernel_rfl
end Go.Proofs.YtjcgaelibiiiiaaDoor
