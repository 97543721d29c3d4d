/-
  What the laws' arguments are, read as words and numbers. By this seat's session.
-/
import Derived.Test.YtjcgaelibiiiiaaDoorLaw
import Derived.Test.YtjcgaelibiiiiaaDoorPure
set_option linter.unusedVariables false
set_option linter.unusedSimpArgs false
namespace Go.Proofs.YtjcgaelibiiiiaaDoor
open Go.Abs
theorem tyInt {n : Nat} {cs : List AVal} (h : TyA Tryd.prog (n + 1) 3 cs) : ∃ z : Int, cs = [.raw (.int .i64 z)] ∧ -9223372036854775808 ≤ z ∧ z < 9223372036854775808 := by
  unfold TyA at h
  rw [Tryd.underlying3] at h
  obtain ⟨z, rfl, hz⟩ := h
  exact ⟨z, rfl, by simp [Lit.wf, IntKind.min, IntKind.max, IntKind.signed, IntKind.bits] at hz; omega⟩
theorem tyInts {n : Nat} {cs : List AVal} (h : TyA Tryd.prog (n + 2) 24 cs) : ∃ l, cs = [.sl (intsL l)] ∧ l.length < 2 ^ 63 ∧ ∀ z ∈ l, -9223372036854775808 ≤ z ∧ z < 9223372036854775808 := by
  unfold TyA at h
  rw [Tryd.underlying24] at h
  obtain ⟨es, rfl, hl, h⟩ := h
  have : ∀ es : List (List AVal), (∀ c ∈ es, TyA Tryd.prog (n + 1) 3 c) → ∃ l : List Int, es = intsL l ∧ ∀ z ∈ l, -9223372036854775808 ≤ z ∧ z < 9223372036854775808 := by
    intro es
    induction es with
    | nil => intro _; exact ⟨[], rfl, by simp⟩
    | cons c es ih =>
      intro h
      obtain ⟨z, rfl, hz⟩ := tyInt (h c (by simp))
      obtain ⟨l, rfl, hr⟩ := ih (fun c hc => h c (by simp [hc]))
      refine ⟨z :: l, rfl, fun y hy => ?_⟩
      rcases List.mem_cons.1 hy with rfl | hy
      · exact hz
      · exact hr y hy
  obtain ⟨l, rfl, hr⟩ := this es h
  exact ⟨l, rfl, by simp [maxLen] at hl; omega, hr⟩
theorem c3 : Tryd.prog.cellsOf 3 = 1 := by kernel_rfl
theorem c50 : Tryd.prog.cellsOf 50 = 1 := by kernel_rfl
theorem c52 : Tryd.prog.cellsOf 52 = 2 := by kernel_rfl
theorem tyWord {n : Nat} {cs : List AVal} (h : TyA Tryd.prog (n + 2) 52 cs) : ∃ p, cs = wordC p ∧ (0 ≤ p.2 ∧ p.2 < 18446744073709551616) ∧ (-9223372036854775808 ≤ p.1 ∧ p.1 < 9223372036854775808) := by
  unfold TyA at h
  rw [Tryd.underlying52] at h
  obtain ⟨hl, h⟩ := h
  rw [c52] at hl
  match cs, hl with
  | [x0, x1], _ =>
    simp only [List.forall_mem_cons, List.mem_cons, forall_eq_or_imp, List.drop_zero, List.drop_succ_cons, c3, c50] at h
    obtain ⟨h0, h1, _⟩ := h
    simp only [List.take_succ_cons, List.take_zero] at h0 h1
    obtain ⟨z0, e0, b0⟩ := tyInt h0
    unfold TyA at h1
    rw [Tryd.underlying50] at h1
    obtain ⟨z1, e1, b1⟩ := h1
    cases e0; cases e1
    refine ⟨(z0, z1), rfl, ?_, b0⟩
    simp [Lit.wf, IntKind.min, IntKind.max, IntKind.signed, IntKind.bits] at b1
    exact ⟨b1.1, by omega⟩
theorem tyWords {n : Nat} {cs : List AVal} (h : TyA Tryd.prog (n + 3) 23 cs) : ∃ l, cs = [.sl (l.map wordC)] ∧ l.length < 2 ^ 63 ∧ bits64 l := by
  unfold TyA at h
  rw [Tryd.underlying23] at h
  obtain ⟨es, rfl, hl, h⟩ := h
  have : ∀ es : List (List AVal), (∀ c ∈ es, TyA Tryd.prog (n + 2) 52 c) → ∃ l : List (Int × Int), es = l.map wordC ∧ bits64 l := by
    intro es
    induction es with
    | nil => intro _; exact ⟨[], rfl, by simp [bits64]⟩
    | cons c es ih =>
      intro h
      obtain ⟨x, rfl, hx, _⟩ := tyWord (h c (by simp))
      obtain ⟨l, rfl, hr⟩ := ih (fun c hc => h c (by simp [hc]))
      refine ⟨x :: l, rfl, fun y hy => ?_⟩
      rcases List.mem_cons.1 hy with rfl | hy
      · exact hx
      · exact hr y hy
  obtain ⟨l, rfl, hr⟩ := this es h
  exact ⟨l, rfl, by simp [maxLen] at hl; omega, hr⟩
theorem arg23 (c : AVal) : argA Tryd.prog 23 [c] = c := by unfold argA; rw [Tryd.underlying23]; rfl
theorem arg24 (c : AVal) : argA Tryd.prog 24 [c] = c := by unfold argA; rw [Tryd.underlying24]; rfl
theorem arg3 (c : AVal) : argA Tryd.prog 3 [c] = c := by unfold argA; rw [Tryd.underlying3]; rfl
end Go.Proofs.YtjcgaelibiiiiaaDoor
