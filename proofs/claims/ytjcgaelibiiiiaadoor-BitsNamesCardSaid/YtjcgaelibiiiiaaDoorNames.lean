/-
  PROVED: the limit's and errors' numbers, and the examples of chapter 2, are as the document says (fescuelaw02.BitsNames answers true). Conditions: none beyond the row's own (math/bits.deBruijn64tab holds what the program's text lays in it; the card ties it).
-/
import Derived.Test.YtjcgaelibiiiiaaDoorLaw
import Derived.Test.YtjcgaelibiiiiaaDoorTie
import Derived.Test.YtjcgaelibiiiiaaDoorCards
set_option linter.unusedVariables false
set_option linter.unusedSimpArgs false
namespace Go.Proofs.YtjcgaelibiiiiaaDoor
open Go.Abs Go.ChangeShapes Go.WideShapes Go.ChangeAt Go.RowKit

theorem run7 : call (EX extL) 100 7 [] 0 ⟨⟨[]⟩, 0⟩ = some ([.v (.raw (.bool true))], ⟨⟨[]⟩, 0⟩) := by kernel_rfl
namespace bitsNames
theorem runs (avs : List AVal) (h : ArgsA Tryd.prog 8 Tryd.f7.params.toList avs) : ∃ n gs', call (EX extL) n 7 avs 0 ⟨⟨[]⟩, 0⟩ = some ([.v (.raw (.bool true))], gs') := by
  rw [Tryd.params7] at h
  cases h
  exact ⟨_, _, run7⟩
set_option maxRecDepth 100000 in
theorem lifted (os : Os) (started : os.Started) (H : Type) (enc : TypeId × Value → H) :
    ReturnsInHanded {} Tryd.checked os 7 .any (fun w args => (Rows.bitsNamesSpec.pre enc Tryd.prog Tryd.f7 [] false w args ∧ laidMetH Tryd.prog laidL w) ∧ sizedMet enc Tryd.prog Tryd.f7 (OpenSpec.ofChange Rows.bitsNamesSpec) false w args)
      (Rows.bitsNamesSpec.post enc Tryd.prog Tryd.f7 false true false false) := by
  refine returnsInHanded_of_change_and (C := Tryd.checked) (X := fun w _ => laidMetH Tryd.prog laidL w) (fun _ _ _ hh h => h.of_heap hh) own started (by kernel_rfl) Tryd.func7
    (ChangeSpec.witness_shaped (enc := enc) (C := Tryd.checked) (os := os) (X := fun w _ => laidMetH Tryd.prog laidL w) false (World.doorLaid Tryd.prog 400 os) #[] 8 rfl (World.shaped_of_RefB (by kernel_rfl) (by kernel_rfl)) (by kernel_rfl) (by kernel_rfl) (by kernel_rfl) (door_met os _)) ?_
  intro W base args ds gs before hval hW _ _ hL _
  exact law_contract (env_ok _) list_ext laidOut mapsRow slicesFull (of_decide_eq_true (by kernel_rfl)) (k := 8) (by kernel_rfl) (by kernel_rfl) rfl (by kernel_rfl) Tryd.underlying4 (fun ds h => by
    rw [Tryd.params7] at h
    match ds, h with
    | [], _ => exact ⟨rfl, rfl, rfl⟩) runs (glob_met hL) hval hW
theorem holds : Rows.BitsNamesSaid :=
  OpenClaim.holds_of_wide 7 Tryd.f7 rfl rfl rfl rfl rfl rfl rfl ⟨rfl, rfl, rfl, rfl, rfl⟩ rfl rfl rfl rfl rfl (by kernel_rfl) Tryd.func7 (by kernel_rfl)
    (of_decide_eq_true (by kernel_rfl)) (by unfold Func.isWrapper; first | (rw [if_pos (by decide +kernel)]; kernel_rfl) | (rw [if_neg (by decide +kernel)]; exact ⟨rfl, rfl⟩))
    (fun os started H enc _ => lifted os started H enc)
end bitsNames
theorem bitsNames_holds : Rows.BitsNamesCardSaid :=
  Claim7.holds_tied_plain_at .later [] [.data] true (true, "ee1ea3d142ffbebdd2ac9ea02c5f6e5e0c339a0411b58484fe983110ce1fafee") false
    bitsNames.holds (fun _ h => by cases h) (by kernel_rfl) (fun _ h => by cases h) bitsNames_row_tie rfl ⟨rfl, rfl⟩ (by kernel_rfl) rfl
    (fun f fn hf hfn => by
      obtain rfl : f = 7 := Option.some.inj ((show Tryd.prog.funcNamed "fescue/fescuelaw02.BitsNames" = some 7 by kernel_rfl).symm.trans hf) |>.symm
      obtain rfl : fn = Tryd.f7 := (Option.some.inj (Tryd.func7.symm.trans hfn)).symm
      exact ⟨by kernel_rfl, fun j t ht => by
        rw [Tryd.params7] at ht
        simp at ht⟩)
    (by kernel_rfl)
#print axioms bitsNames_holds
end Go.Proofs.YtjcgaelibiiiiaaDoor
