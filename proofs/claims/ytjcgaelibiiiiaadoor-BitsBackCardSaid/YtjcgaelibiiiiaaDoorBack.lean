/-
  PROVED: a set made of a set's own numbers is that set, and a set made of numbers holds those numbers and no other, each once, in rising order (BitsBack answers true). Conditions: none beyond the row's own (what it lists holds what the program's text lays in it; the card ties it).
-/
import Derived.Test.YtjcgaelibiiiiaaDoorArgs
import Derived.Test.YtjcgaelibiiiiaaDoorW7
import Derived.Test.YtjcgaelibiiiiaaDoorTie
import Derived.Test.YtjcgaelibiiiiaaDoorCards
set_option linter.unusedVariables false
set_option linter.unusedSimpArgs false
namespace Go.Proofs.YtjcgaelibiiiiaaDoor
open Go.Abs Go.ChangeShapes Go.WideShapes Go.ChangeAt Go.RowKit

namespace bitsBack
theorem runs (avs : List AVal) (h : ArgsA Tryd.prog 8 Tryd.f5.params.toList avs) : ∃ n gs', call (EX extL) n 5 avs 0 ⟨⟨[]⟩, 0⟩ = some ([.v (.raw (.bool true))], gs') := by
  rw [Tryd.params5] at h
  obtain ⟨c1, c2, rfl, t1, t2⟩ : ∃ c1 c2, avs = [argA Tryd.prog 23 c1, argA Tryd.prog 24 c2] ∧ TyA Tryd.prog 8 23 c1 ∧ TyA Tryd.prog 8 24 c2 := by
    cases h with
    | cons _ _ c1 _ h1 r1 => cases r1 with
      | cons _ _ c2 _ h2 r2 => cases r2; exact ⟨c1, c2, rfl, h1, h2⟩
  obtain ⟨a, rfl, _, hba⟩ := tyWords t1
  obtain ⟨l, rfl, _, hl⟩ := tyInts t2
  rw [arg23, arg24]
  obtain ⟨k, hk⟩ := ev_BitsBack a l hba hl 0 ⟨⟨[]⟩, 0⟩ rfl
  exact ⟨k, _, hk⟩
set_option maxRecDepth 100000 in
theorem lifted (os : Os) (started : os.Started) (H : Type) (enc : TypeId × Value → H) :
    ReturnsInHanded {} Tryd.checked os 5 .any (fun w args => (Rows.bitsBackSpec.pre enc Tryd.prog Tryd.f5 [] false w args ∧ laidMetH Tryd.prog laidL w) ∧ sizedMet enc Tryd.prog Tryd.f5 (OpenSpec.ofChange Rows.bitsBackSpec) false w args)
      (Rows.bitsBackSpec.post enc Tryd.prog Tryd.f5 false true false false) := by
  refine returnsInHanded_of_change_and (C := Tryd.checked) (X := fun w _ => laidMetH Tryd.prog laidL w) (fun _ _ _ hh h => h.of_heap hh) own started (by kernel_rfl) Tryd.func5
    (ChangeSpec.witness_shaped (enc := enc) (C := Tryd.checked) (os := os) (X := fun w _ => laidMetH Tryd.prog laidL w) false (World.doorLaid Tryd.prog 400 os) #[.slice none 0 0, .slice none 0 0] 8 rfl (World.shaped_of_RefB (by kernel_rfl) (by kernel_rfl)) (by kernel_rfl) (by kernel_rfl) (by kernel_rfl) (door_met os _)) ?_
  intro W base args ds gs before hval hW _ _ hL _
  exact law_contract (env_ok _) list_ext laidOut mapsRow slicesFull (of_decide_eq_true (by kernel_rfl)) (k := 8) (by kernel_rfl) (by kernel_rfl) rfl (by kernel_rfl) Tryd.underlying4 (fun ds h => by
    rw [Tryd.params5] at h
    match ds, h with
    | [_, _], _ => exact ⟨rfl, rfl, rfl⟩) runs (glob_met hL) hval hW
theorem holds : Rows.BitsBackSaid :=
  OpenClaim.holds_of_wide 5 Tryd.f5 rfl rfl rfl rfl rfl rfl rfl ⟨rfl, rfl, rfl, rfl, rfl⟩ rfl rfl rfl rfl rfl (by kernel_rfl) Tryd.func5 (by kernel_rfl)
    (of_decide_eq_true (by kernel_rfl)) (by unfold Func.isWrapper; first | (rw [if_pos (by decide +kernel)]; kernel_rfl) | (rw [if_neg (by decide +kernel)]; exact ⟨rfl, rfl⟩))
    (fun os started H enc _ => lifted os started H enc)
end bitsBack
theorem bitsBack_holds : Rows.BitsBackCardSaid :=
  Claim7.holds_tied_plain_at .later [] [.data] true (true, "ee1ea3d142ffbebdd2ac9ea02c5f6e5e0c339a0411b58484fe983110ce1fafee") false
    bitsBack.holds (fun _ h => by cases h) (by kernel_rfl) (fun _ h => by cases h) bitsBack_row_tie rfl ⟨rfl, rfl⟩ (by kernel_rfl) rfl
    (fun f fn hf hfn => by
      obtain rfl : f = 5 := Option.some.inj ((show Tryd.prog.funcNamed Tryd.f5.name = some 5 by kernel_rfl).symm.trans hf) |>.symm
      obtain rfl : fn = Tryd.f5 := (Option.some.inj (Tryd.func5.symm.trans hfn)).symm
      exact ⟨by kernel_rfl, fun j t ht => by
        have key : (Tryd.f5.params.toList.all fun t => !Tryd.prog.wantsStandIn t) = true := by kernel_rfl
        have hm : t ∈ Tryd.f5.params.toList := by
          have := Array.mem_of_getElem? ht
          simpa using this
        have := List.all_eq_true.1 key t hm
        exact (show Tryd.prog.wantsStandIn t = false by simpa using this)⟩)
    (by kernel_rfl)
#print axioms bitsBack_holds
end Go.Proofs.YtjcgaelibiiiiaaDoor
