/-
  What the tied rows of this seat share: the table that the rows list, as the interpreter takes it; the closed facts of the program. By this seat's session.
-/
import Derived.Test.YtjcgaelibiiiiaaDoorExt
import Derived.Test.YtjcgaelibiiiiaaDoorRows
import Derived.LaidMore
import Derived.Stop.Joined
set_option linter.unusedVariables false
set_option linter.unusedSimpArgs false
namespace Go.Proofs.YtjcgaelibiiiiaaDoor
open Go.Abs Go.ChangeShapes Go.WideShapes Go.ChangeAt Go.RowKit Go.Shelf

theorem own : ownKnob Tryd.prog.godebug = none := by kernel_rfl
theorem gTab : Tryd.prog.globalNamed "math/bits.deBruijn64tab" = some 0 := by kernel_rfl
theorem laidOut : laidOutB Tryd.prog = true := by kernel_rfl
theorem mapsRow : mapsRowed Tryd.prog = true := by kernel_rfl
theorem slicesFull : ∀ t e, t < Tryd.prog.types.size → Tryd.prog.underlying t = some (.slice e) → 0 < Tryd.prog.cellsOf e := slices_full_of Tryd.prog (by kernel_rfl)
def laidL : List (String × DataW Unit) := [("math/bits.deBruijn64tab", Rows.laid_math_bits_deBruijn64tab)]
theorem door_met (os : Os) (args : Array Value) : laidMetH Tryd.prog laidL ((World.doorLaid Tryd.prog 400 os).forCall (fun _ _ => 0) ⟨#[], args, []⟩).memory :=
  laidMetH_of_parts3 (fuel := 8) (laidMet_of_run' 8 (by kernel_rfl) (by kernel_rfl)) (by kernel_rfl) (by kernel_rfl)
theorem tab_is {H : Type} : (Rows.laid_math_bits_deBruijn64tab : DataW H) = .agg (Lib.deBruijn64tab.map fun (n : Nat) => .lit (.int .u8 n)) := rfl
theorem tab_met {W : World} (h : laidMetH Tryd.prog laidL W) : TabAt 0 Lib.deBruijn64tab W := by
  rw [MakeChecks.laidMetH_plain _ _ _ (by kernel_rfl)] at h
  obtain ⟨ps, ⟨g0, t0, cs0, f0, p0, q0, hg0, ht0, hv0, hd0, _, _⟩, _⟩ := h
  obtain rfl := Option.some.inj (gTab.symm.trans hg0)
  obtain ⟨t, ht⟩ : ∃ t, (Tryd.prog.globals[0]?).map (·.type) = some t := ⟨_, ht0⟩
  have tt : (Tryd.prog.globals[0]?).bind (fun g => Tryd.prog.underlying g.type) = some (.array 64 5) := by kernel_rfl
  have hu : Tryd.prog.underlying t0 = some (.array 64 5) := by
    obtain ⟨g, hg, rfl⟩ := Option.map_eq_some_iff.1 ht0
    rw [hg] at tt
    exact tt
  obtain ⟨xs, m1, rfl, hx1, hlen, hn3, hel⟩ := DataW.trod_array hu hd0
  have c5 : Tryd.prog.cellsOf 5 = 1 := by kernel_rfl
  have u5 : Tryd.prog.underlying 5 = some (.int .u8) := by kernel_rfl
  simp only [Prod.mk.injEq] at hx1
  have hx := hx1.1
  rw [tab_is] at hx
  simp only [DataW.agg.injEq] at hx
  have h64 : Lib.deBruijn64tab.length = 64 := by decide
  intro j hj
  have h1 := hel j (by omega)
  obtain ⟨x, hxj⟩ : ∃ x, xs[j]? = some x := ⟨xs[j]'(by omega), by simp [show j < xs.length by omega]⟩
  rw [hxj] at h1
  obtain ⟨z, e1, e2, _⟩ := DataW.trod_int u5 h1
  have hz : z = (Lib.deBruijn64tab.getD j 0 : Nat) := by
    have h3 : (xs.map fun x => x.1)[j]? = some (.lit (.int .u8 z)) := by rw [List.getElem?_map, hxj, Option.map_some, e2]
    rw [← hx, List.getElem?_map, List.getElem?_eq_getElem (by omega)] at h3
    simp at h3
    rw [← h3]
    simp [List.getD_eq_getElem?_getD, List.getElem?_eq_getElem (show j < Lib.deBruijn64tab.length by omega)]
  have h5 := World.var?_cell hg0 hv0 j
  rw [h5]
  rw [c5, Nat.mul_one] at e1
  have h6 : (List.take 1 (List.drop j cs0.toList))[0]? = some (.int .u8 z) := by rw [e1]; rfl
  rw [List.getElem?_take, if_pos (by omega), List.getElem?_drop, Nat.add_zero, Array.getElem?_toList] at h6
  rw [h6, hz]
theorem glob_met {W : World} {x : ExtF} (h : laidMetH Tryd.prog laidL W) : ∀ g cs, (EX x).globals g = some cs → Rep (fun _ _ => none) (fun _ => False) W (.pointer (some ⟨g, 0, none⟩)) (.ip cs) := by
  intro g cs hg
  have hT := tab_met h
  have hg' : (if g = 0 then some (Lib.deBruijn64tab.map fun (n : Nat) => AVal.raw (.int .u8 n)) else none) = some cs := hg
  split at hg'
  · rename_i h0
    subst h0
    cases hg'
    refine .ip ⟨0, 0, none⟩ _ (fun j => .int .u8 (Lib.deBruijn64tab.getD j 0 : Nat)) (fun j x hx => ?_) (fun j x hx => ?_)
    · have hj : j < Lib.deBruijn64tab.length := by have := (List.getElem?_eq_some_iff.1 hx).1; simpa using this
      rw [List.getElem?_map, List.getElem?_eq_getElem hj] at hx
      simp at hx; subst hx
      refine ⟨rfl, fun h => h, ?_⟩
      rw [add_cells, Nat.zero_add]
      exact hT j hj
    · have hj : j < Lib.deBruijn64tab.length := by have := (List.getElem?_eq_some_iff.1 hx).1; simpa using this
      rw [List.getElem?_map, List.getElem?_eq_getElem hj] at hx
      simp at hx; subst hx
      have : (Lib.deBruijn64tab.getD j 0) = Lib.deBruijn64tab[j] := by simp [List.getD_eq_getElem?_getD, List.getElem?_eq_getElem hj]
      rw [this]
      exact .raw _
  · cases hg'
end Go.Proofs.YtjcgaelibiiiiaaDoor
