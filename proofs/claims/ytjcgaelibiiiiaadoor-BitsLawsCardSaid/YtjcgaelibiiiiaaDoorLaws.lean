/-
  PROVED: Or and And go together as or and and do, Minus takes out just what And has, and how many numbers there are adds up (BitsLaws answers true). Conditions: none beyond the row's own (what it lists holds what the program's text lays in it; the card ties it).
-/
import Derived.Test.YtjcgaelibiiiiaaDoorArgs
import Derived.Test.YtjcgaelibiiiiaaDoorW5
import Derived.Test.YtjcgaelibiiiiaaDoorTie
import Derived.Test.YtjcgaelibiiiiaaDoorCards
set_option linter.unusedVariables false
set_option linter.unusedSimpArgs false
namespace Go.Proofs.YtjcgaelibiiiiaaDoor
open Go.Abs Go.ChangeShapes Go.WideShapes Go.ChangeAt Go.RowKit

namespace bitsLaws
theorem runs (avs : List AVal) (h : ArgsA Tryd.prog 8 Tryd.f6.params.toList avs) : ∃ n gs', call (EX extL) n 6 avs 0 ⟨⟨[]⟩, 0⟩ = some ([.v (.raw (.bool true))], gs') := by
  rw [Tryd.params6] at h
  obtain ⟨c1, c2, c3, rfl, t1, t2, t3⟩ : ∃ c1 c2 c3, avs = [argA Tryd.prog 23 c1, argA Tryd.prog 23 c2, argA Tryd.prog 23 c3] ∧ TyA Tryd.prog 8 23 c1 ∧ TyA Tryd.prog 8 23 c2 ∧ TyA Tryd.prog 8 23 c3 := by
    cases h with
    | cons _ _ c1 _ h1 r1 => cases r1 with
      | cons _ _ c2 _ h2 r2 => cases r2 with
        | cons _ _ c3 _ h3 r3 => cases r3; exact ⟨c1, c2, c3, rfl, h1, h2, h3⟩
  obtain ⟨a, rfl, _, hba⟩ := tyWords t1
  obtain ⟨b, rfl, _, hbb⟩ := tyWords t2
  obtain ⟨c, rfl, _, hbc⟩ := tyWords t3
  rw [arg23, arg23, arg23]
  obtain ⟨k, hk⟩ := ev_BitsLaws a b c hba hbb hbc 0 ⟨⟨[]⟩, 0⟩ rfl
  exact ⟨k, _, hk⟩
set_option maxRecDepth 100000 in
theorem lifted (os : Os) (started : os.Started) (H : Type) (enc : TypeId × Value → H) :
    ReturnsInHanded {} Tryd.checked os 6 .any (fun w args => (Rows.bitsLawsSpec.pre enc Tryd.prog Tryd.f6 [] false w args ∧ laidMetH Tryd.prog laidL w) ∧ sizedMet enc Tryd.prog Tryd.f6 (OpenSpec.ofChange Rows.bitsLawsSpec) false w args)
      (Rows.bitsLawsSpec.post enc Tryd.prog Tryd.f6 false true false false) := by
  refine returnsInHanded_of_change_and (C := Tryd.checked) (X := fun w _ => laidMetH Tryd.prog laidL w) (fun _ _ _ hh h => h.of_heap hh) own started (by kernel_rfl) Tryd.func6
    (ChangeSpec.witness_shaped (enc := enc) (C := Tryd.checked) (os := os) (X := fun w _ => laidMetH Tryd.prog laidL w) false (World.doorLaid Tryd.prog 400 os) #[.slice none 0 0, .slice none 0 0, .slice none 0 0] 8 rfl (World.shaped_of_RefB (by kernel_rfl) (by kernel_rfl)) (by kernel_rfl) (by kernel_rfl) (by kernel_rfl) (door_met os _)) ?_
  intro W base args ds gs before hval hW _ _ hL _
  exact law_contract (env_ok _) list_ext laidOut mapsRow slicesFull (of_decide_eq_true (by kernel_rfl)) (k := 8) (by kernel_rfl) (by kernel_rfl) rfl (by kernel_rfl) Tryd.underlying4 (fun ds h => by
    rw [Tryd.params6] at h
    match ds, h with
    | [_, _, _], _ => exact ⟨rfl, rfl, rfl⟩) runs (glob_met hL) hval hW
theorem holds : Rows.BitsLawsSaid :=
  OpenClaim.holds_of_wide 6 Tryd.f6 rfl rfl rfl rfl rfl rfl rfl ⟨rfl, rfl, rfl, rfl, rfl⟩ rfl rfl rfl rfl rfl (by kernel_rfl) Tryd.func6 (by kernel_rfl)
    (of_decide_eq_true (by kernel_rfl)) (by unfold Func.isWrapper; first | (rw [if_pos (by decide +kernel)]; kernel_rfl) | (rw [if_neg (by decide +kernel)]; exact ⟨rfl, rfl⟩))
    (fun os started H enc _ => lifted os started H enc)
end bitsLaws
theorem bitsLaws_holds : Rows.BitsLawsCardSaid :=
  Claim7.holds_tied_plain_at .later [] [.data] true (true, "ee1ea3d142ffbebdd2ac9ea02c5f6e5e0c339a0411b58484fe983110ce1fafee") false
    bitsLaws.holds (fun _ h => by cases h) (by kernel_rfl) (fun _ h => by cases h) bitsLaws_row_tie rfl ⟨rfl, rfl⟩ (by kernel_rfl) rfl
    (fun f fn hf hfn => by
      obtain rfl : f = 6 := Option.some.inj ((show Tryd.prog.funcNamed Tryd.f6.name = some 6 by kernel_rfl).symm.trans hf) |>.symm
      obtain rfl : fn = Tryd.f6 := (Option.some.inj (Tryd.func6.symm.trans hfn)).symm
      exact ⟨by kernel_rfl, fun j t ht => by
        have key : (Tryd.f6.params.toList.all fun t => !Tryd.prog.wantsStandIn t) = true := by kernel_rfl
        have hm : t ∈ Tryd.f6.params.toList := by
          have := Array.mem_of_getElem? ht
          simpa using this
        have := List.all_eq_true.1 key t hm
        exact (show Tryd.prog.wantsStandIn t = false by simpa using this)⟩)
    (by kernel_rfl)
#print axioms bitsLaws_holds
end Go.Proofs.YtjcgaelibiiiiaaDoor
