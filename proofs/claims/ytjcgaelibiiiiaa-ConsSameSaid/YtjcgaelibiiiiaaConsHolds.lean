/-
  PROVED: whether two lists of constraints are the same is what the document says, whatever the two lists (fescuelaw19.ConsSame answers true, and its arguments read as before). Conditions: none beyond the row's own.
-/
import Derived.Test.YtjcgaelibiiiiaaConsWalk
import Derived.Test.YtjcgaelibiiiiaaRows
set_option linter.unusedVariables false
set_option linter.unusedSimpArgs false
namespace Go.Proofs.Ytjcgaelibiiiiaa
open Go.Abs Go.ChangeShapes Go.WideShapes Go.ChangeAt Go.RowKit

theorem own : ownKnob Try.prog.godebug = none := by kernel_rfl
theorem tyInts {n : Nat} {cs : List AVal} (h : TyA Try.prog (n + 2) 23 cs) : ∃ l, cs = [.sl (ints l)] ∧ l.length < 2 ^ 63 ∧ ∀ z ∈ l, -9223372036854775808 ≤ z ∧ z < 9223372036854775808 := by
  unfold TyA at h
  rw [Try.underlying23] at h
  obtain ⟨es, rfl, hl, h⟩ := h
  have : ∀ es : List (List AVal), (∀ c ∈ es, TyA Try.prog (n + 1) 3 c) → ∃ l : List Int, es = ints l ∧ ∀ z ∈ l, -9223372036854775808 ≤ z ∧ z < 9223372036854775808 := by
    intro es
    induction es with
    | nil => intro _; exact ⟨[], rfl, by simp⟩
    | cons c es ih =>
      intro h
      have h1 := h c (by simp)
      unfold TyA at h1
      rw [Try.underlying3] at h1
      obtain ⟨z, rfl, hz⟩ := h1
      obtain ⟨l, rfl, hr⟩ := ih (fun c hc => h c (by simp [hc]))
      refine ⟨z :: l, rfl, fun y hy => ?_⟩
      rcases List.mem_cons.1 hy with rfl | hy
      · simp [Lit.wf, IntKind.min, IntKind.max, IntKind.signed, IntKind.bits] at hz; omega
      · exact hr y hy
  obtain ⟨l, rfl, hr⟩ := this es h
  exact ⟨l, rfl, by simp [maxLen] at hl; omega, hr⟩
theorem c5 : Try.prog.cellsOf 5 = 1 := by kernel_rfl
theorem c3' : Try.prog.cellsOf 3 = 1 := by kernel_rfl
theorem c23 : Try.prog.cellsOf 23 = 1 := by kernel_rfl
theorem tyCon {n : Nat} {cs : List AVal} (h : TyA Try.prog (n + 3) 25 cs) : ∃ c, cs = conC c ∧ c.args.length < 2 ^ 63 := by
  unfold TyA at h
  rw [Try.underlying25] at h
  obtain ⟨hl, h⟩ := h
  rw [show Try.prog.cellsOf 25 = 5 by kernel_rfl] at hl
  match cs, hl with
  | [c0, c1, c2, c3, c4], _ =>
    simp only [List.forall_mem_cons, List.mem_cons, forall_eq_or_imp, List.drop_zero, List.drop_succ_cons, c5, c3', c23] at h
    obtain ⟨h0, h1, h2, h3, h4, _⟩ := h
    simp only [List.take_succ_cons, List.take_zero] at h0 h1 h2 h3 h4
    unfold TyA at h0 h1 h2 h3
    rw [Try.underlying5] at h0
    rw [Try.underlying3] at h1 h2 h3
    obtain ⟨z0, e0, _⟩ := h0
    obtain ⟨z1, e1, _⟩ := h1
    obtain ⟨z2, e2, _⟩ := h2
    obtain ⟨z3, e3, _⟩ := h3
    obtain ⟨l, e4, hl, _⟩ := tyInts h4
    cases e0; cases e1; cases e2; cases e3; cases e4
    exact ⟨⟨z0, z1, z2, z3, l⟩, rfl, hl⟩
theorem tyCons {n : Nat} {cs : List AVal} (h : TyA Try.prog (n + 4) 22 cs) : ∃ l, cs = [.sl (cons l)] ∧ l.length < 2 ^ 63 ∧ conOk l := by
  unfold TyA at h
  rw [Try.underlying22] at h
  obtain ⟨es, rfl, hl, h⟩ := h
  have : ∀ es : List (List AVal), (∀ c ∈ es, TyA Try.prog (n + 3) 25 c) → ∃ l : List ConV, es = cons l ∧ conOk l := by
    intro es
    induction es with
    | nil => intro _; exact ⟨[], rfl, by simp [conOk]⟩
    | cons c es ih =>
      intro h
      obtain ⟨x, rfl, hx⟩ := tyCon (h c (by simp))
      obtain ⟨l, rfl, hr⟩ := ih (fun c hc => h c (by simp [hc]))
      refine ⟨x :: l, rfl, fun y hy => ?_⟩
      rcases List.mem_cons.1 hy with rfl | hy
      · exact hx
      · exact hr y hy
  obtain ⟨l, rfl, hr⟩ := this es h
  exact ⟨l, rfl, by simp [maxLen] at hl; omega, hr⟩
theorem extOK : ExtOK Try.prog E := by
  intro g args base gs rs gs' h
  exact absurd h (by simp [E, envOf, marks])
theorem envOK : EnvOK Try.prog E := envOf_ok (by kernel_rfl)
theorem laidOut : laidOutB Try.prog = true := by kernel_rfl
theorem mapsRow : mapsRowed Try.prog = true := by kernel_rfl
theorem slicesFull : ∀ t e, t < Try.prog.types.size → Try.prog.underlying t = some (.slice e) → 0 < Try.prog.cellsOf e := slices_full_of Try.prog (by kernel_rfl)
namespace consSame
theorem contract (H : Type) (enc : TypeId × Value → H) (W : World) (base : Nat) (args : Array Value) (ds gs : List (DataW H)) (before : List MemPlace)
    (hval : ∀ (j : Nat) t v, Try.f3.params[j]? = some t → args[j]? = some v → Value.okWide Try.prog W .any base t v)
    (hW : DataW.Whole enc Try.prog Try.f3.params.toList Rows.consSameSpec.vars false W args.toList ds gs before) :
    Calls Try.prog 3 args W fun e W' => ∃ v, e = .returned v ∧ Rows.consSameSpec.post enc Try.prog Try.f3 false true false false W args v W' := by
  have hW' := hW
  obtain ⟨p, q, hA, hV, rfl, _, _⟩ := hW
  obtain ⟨rfl, rfl⟩ := trodVars_none hV
  obtain ⟨avs, hT, hR, hO⟩ := trodAll_abs (A := fun _ _ => none) (X := fun _ => False) (fun _ h => h) (n := 6) _ _ _ _ (by kernel_rfl) (fun j t v h1 h2 => hval j t v (by simpa using h1) (by simpa using h2)) hA
  have hd : ∃ d1 d2, ds = [d1, d2] := by
    have hA2 := hA
    rw [Try.params3] at hA2
    obtain ⟨_, _, d1, _, _, _, _, e1, _, _, r1⟩ := trodAll_cons hA2
    obtain ⟨_, _, d2, _, _, _, _, e2, _, _, r2⟩ := trodAll_cons r1
    obtain ⟨_, e3, _⟩ := trodAll_nil r2
    exact ⟨d1, d2, by rw [e1, e2, e3]⟩
  obtain ⟨d1, d2, rfl⟩ := hd
  rw [Try.params3] at hT
  obtain ⟨cs1, cs2, rfl, t1, t2⟩ : ∃ c1 c2, avs = [argA Try.prog 22 c1, argA Try.prog 22 c2] ∧ TyA Try.prog 6 22 c1 ∧ TyA Try.prog 6 22 c2 := by
    cases hT with
    | cons _ _ c1 _ h1 r1 => cases r1 with
      | cons _ _ c2 _ h2 r2 => cases r2; exact ⟨c1, c2, rfl, h1, h2⟩
  obtain ⟨a, rfl, ha, hca⟩ := tyCons t1
  obtain ⟨b, rfl, _, _⟩ := tyCons t2
  have e22 : ∀ c, argA Try.prog 22 [c] = c := fun c => by unfold argA; rw [Try.underlying22]; rfl
  rw [e22, e22] at hR hO
  obtain ⟨n, hn⟩ := ev3 a b ha hca 0 ⟨⟨[]⟩, 0⟩
  have := law_of_call envOK extOK (fun g cs h => by cases h) rfl hR hO hn
  rw [Array.toArray_toList] at this
  refine this.mono fun e W' ⟨he, hb⟩ => ⟨_, he, post_true laidOut mapsRow slicesFull (by rw [Try.params3]; decide) rfl hb (tb := 4) rfl Try.underlying4 rfl rfl rfl hW'⟩

set_option maxRecDepth 100000 in
theorem lifted (os : Os) (started : os.Started) (H : Type) (enc : TypeId × Value → H) :
    ReturnsInHanded {} Try.checked os 3 .any (Rows.consSameSpec.pre6 enc Try.prog Try.f3 Rows.consSameRow.domain false) (Rows.consSameSpec.post enc Try.prog Try.f3 false true false false) := by
  refine returnsInHanded_of_change (C := Try.checked) own started (by kernel_rfl) Try.func3
    (ChangeSpec.witness6 (enc := enc) (C := Try.checked) false ⟨#[], #[.slice none 0 0, .slice none 0 0], []⟩ 8 (by kernel_rfl) (by kernel_rfl) (by kernel_rfl) (by kernel_rfl)) ?_
  intro W base args ds gs before hval hW _ _
  exact contract H enc W base args ds gs before hval hW

/-- Whether two lists of constraints are the same is the document's, whatever the two lists. -/
theorem holds : Rows.ConsSameSaid :=
  OpenClaim.holds_of_wide 3 Try.f3 rfl rfl rfl rfl rfl rfl rfl ⟨rfl, rfl, rfl, rfl, rfl⟩ rfl rfl rfl rfl rfl (by kernel_rfl) Try.func3 (by kernel_rfl)
    (of_decide_eq_true (by kernel_rfl)) (by unfold Func.isWrapper; first | (rw [if_pos (by decide +kernel)]; kernel_rfl) | (rw [if_neg (by decide +kernel)]; exact ⟨rfl, rfl⟩))
    (fun os started H enc _ => lifted os started H enc)
end consSame
theorem consSame_holds : Rows.ConsSameSaid := consSame.holds

end Go.Proofs.Ytjcgaelibiiiiaa
