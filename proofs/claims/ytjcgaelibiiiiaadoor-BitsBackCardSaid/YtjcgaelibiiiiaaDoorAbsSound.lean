/-
  THE ABSTRACT INTERPRETER IS SOUND: what it answers of a call, the model's call comes to. By this seat's session.
-/
import Derived.Test.YtjcgaelibiiiiaaDoorAbsRun
set_option linter.unusedVariables false
set_option linter.unusedSimpArgs false
namespace Go.Abs

def exitOf : AExit → Exit
  | .normal => .normal
  | .exit id => .exit id
  | .ret => .ret

section
variable {P : Program} {env : Env} {C : CallF} {F : Nat → Prop} {H0 N0 base nt : Nat} {A0 : Gh} {m0 : Mem} {w0 : World} {f : FuncId}

theorem Live.alike {A : Gh} {act : Act} {w : World} {s s' : St} (h : Live env F H0 N0 base nt A0 m0 w0 A act w s) (hg : ∀ t, s.get t = s'.get t) (hm : s.m = s'.m) : Live env F H0 N0 base nt A0 m0 w0 A act w s' :=
  ⟨hm ▸ h.wok, fun t => by rw [← hg, ← hm]; exact h.fr t, h.size, h.defers, hm ▸ h.ext, hm ▸ h.hb⟩

theorem exec_wp (hE : EnvOK P env) (hC : Sound P env C) : ∀ (n : Nat),
    (∀ (c : Code) (s s' : St) (e : AExit) (A : Gh) (act : Act) (w : World) (Q : Exit → Act → World → Prop), exec C env f base nt n c s = some (e, s') → codeOk c = true → Live env F H0 N0 base nt A0 m0 w0 A act w s →
      (∀ A' act' w', Live env F H0 N0 base nt A0 m0 w0 A' act' w' s' → Q (exitOf e) act' w') → c.wp P Q act w) ∧
    (∀ (b : Code) (s s' : St) (e : AExit) (A : Gh) (act : Act) (w : World) (Q : Exit → Act → World → Prop), exec C env f base nt n (.loop b) s = some (e, s') → codeOk b = true → Live env F H0 N0 base nt A0 m0 w0 A act w s →
      (∀ A' act' w', Live env F H0 N0 base nt A0 m0 w0 A' act' w' s' → Q (exitOf e) act' w') → Code.rounds P b Q n act w) := by
  intro n
  induction n with
  | zero => exact ⟨fun c s s' e A act w Q h => by simp [exec] at h, fun b s s' e A act w Q h => by simp [exec] at h⟩
  | succ n ih =>
    obtain ⟨ih1, ih2⟩ := ih
    have loop : ∀ (b : Code) (s s' : St) (e : AExit) (A : Gh) (act : Act) (w : World) (Q : Exit → Act → World → Prop), exec C env f base nt (n + 1) (.loop b) s = some (e, s') → codeOk b = true → Live env F H0 N0 base nt A0 m0 w0 A act w s →
        (∀ A' act' w', Live env F H0 N0 base nt A0 m0 w0 A' act' w' s' → Q (exitOf e) act' w') → Code.rounds P b Q (n + 1) act w := by
      intro b s s' e A act w Q h hok hl hQ
      rw [rounds_succ]
      simp only [exec] at h
      cases hb : exec C env f base nt n b s with
      | none => rw [hb] at h; cases h
      | some r =>
        obtain ⟨eb, sb⟩ := r
        rw [hb] at h
        cases eb with
        | normal =>
          simp only at h
          exact ih1 b s sb .normal A act w _ hb hok hl (fun A' act' w' hl' => ih2 b sb s' e A' act' w' Q h hok hl' hQ)
        | exit id =>
          simp only [Option.some.injEq, Prod.mk.injEq] at h
          obtain ⟨rfl, rfl⟩ := h
          exact ih1 b s sb (.exit id) A act w _ hb hok hl (fun A' act' w' hl' => hQ A' act' w' hl')
        | ret =>
          simp only [Option.some.injEq, Prod.mk.injEq] at h
          obtain ⟨rfl, rfl⟩ := h
          exact ih1 b s sb .ret A act w _ hb hok hl (fun A' act' w' hl' => hQ A' act' w' hl')
    refine ⟨fun c s s' e A act w Q h hok hl hQ => ?_, loop⟩
    cases c with
    | skip =>
      simp only [exec, Option.some.injEq, Prod.mk.injEq] at h
      obtain ⟨rfl, rfl⟩ := h
      exact wp_skip (hQ A act w hl)
    | label l =>
      simp only [exec, Option.some.injEq, Prod.mk.injEq] at h
      obtain ⟨rfl, rfl⟩ := h
      exact wp_label (hQ A act w hl)
    | region id ops draw =>
      simp only [exec] at h
      split at h
      · cases h
      · rename_i s1 fl hr
        split at h
        · cases h
        · rename_i hd
          simp only [Option.some.injEq, Prod.mk.injEq] at h
          obtain ⟨rfl, rfl⟩ := h
          cases draw with
          | false => exact wp_region_list (runOps_wp hE hC ops.toList s s1 fl A act w hr hl hQ)
          | true =>
            have hd' : drawOk ops fl = true := by simpa using hd
            have hok' : regionOk ops = true := by simpa [codeOk] using hok
            exact region_wp hE hC hok' hr hd' hl (fun s2 A' act' w' hl' hg hm => hQ A' act' w' (hl'.alike hg hm))
    | seq a b =>
      simp only [codeOk, Bool.and_eq_true] at hok
      simp only [exec] at h
      cases ha : exec C env f base nt n a s with
      | none => rw [ha] at h; cases h
      | some r =>
        obtain ⟨ea, sa⟩ := r
        rw [ha] at h
        refine wp_seq ?_
        cases ea with
        | normal =>
          simp only at h
          exact ih1 a s sa .normal A act w _ ha hok.1 hl (fun A' act' w' hl' => ih1 b sa s' e A' act' w' Q h hok.2 hl' hQ)
        | exit id =>
          simp only [Option.some.injEq, Prod.mk.injEq] at h
          obtain ⟨rfl, rfl⟩ := h
          exact ih1 a s sa (.exit id) A act w _ ha hok.1 hl (fun A' act' w' hl' => hQ A' act' w' hl')
        | ret =>
          simp only [Option.some.injEq, Prod.mk.injEq] at h
          obtain ⟨rfl, rfl⟩ := h
          exact ih1 a s sa .ret A act w _ ha hok.1 hl (fun A' act' w' hl' => hQ A' act' w' hl')
    | cond c a b =>
      simp only [codeOk, Bool.and_eq_true] at hok
      simp only [exec] at h
      split at h
      · rename_i t hc
        have hv := (eval_spec hl.wok hl.fr hc).raw_inv
        refine wp_cond hv ?_
        refine ih1 _ s s' e A act w Q h ?_ hl hQ
        cases t
        · exact hok.2
        · exact hok.1
      · cases h
    | block id b =>
      simp only [codeOk] at hok
      simp only [exec] at h
      cases hb : exec C env f base nt n b s with
      | none => rw [hb] at h; cases h
      | some r =>
        obtain ⟨eb, sb⟩ := r
        rw [hb] at h
        refine wp_block ?_
        cases eb with
        | normal =>
          simp only [Option.some.injEq, Prod.mk.injEq] at h
          obtain ⟨rfl, rfl⟩ := h
          exact ih1 b s sb .normal A act w _ hb hok hl (fun A' act' w' hl' => hQ A' act' w' hl')
        | exit j =>
          simp only at h
          refine ih1 b s sb (.exit j) A act w _ hb hok hl (fun A' act' w' hl' => ?_)
          show Exit.inBlock id Q (.exit j) act' w'
          simp only [Exit.inBlock]
          split at h
          · rename_i e1
            simp only [Option.some.injEq, Prod.mk.injEq] at h
            obtain ⟨rfl, rfl⟩ := h
            rw [if_pos e1]
            exact hQ A' act' w' hl'
          · rename_i e1
            simp only [Option.some.injEq, Prod.mk.injEq] at h
            obtain ⟨rfl, rfl⟩ := h
            rw [if_neg e1]
            exact hQ A' act' w' hl'
        | ret =>
          simp only [Option.some.injEq, Prod.mk.injEq] at h
          obtain ⟨rfl, rfl⟩ := h
          exact ih1 b s sb .ret A act w _ hb hok hl (fun A' act' w' hl' => hQ A' act' w' hl')
    | loop b =>
      simp only [codeOk] at hok
      exact wp_loop_rounds (n + 1) (loop b s s' e A act w Q h hok hl hQ)
    | exit id =>
      simp only [exec, Option.some.injEq, Prod.mk.injEq] at h
      obtain ⟨rfl, rfl⟩ := h
      exact wp_exit (hQ A act w hl)
    | ret =>
      simp only [exec, Option.some.injEq, Prod.mk.injEq] at h
      obtain ⟨rfl, rfl⟩ := h
      exact wp_ret (hQ A act w hl)
    | scope b =>
      simp only [codeOk] at hok
      simp only [exec] at h
      refine wp_scope_straight (ih1 b s s' e A act w _ h hok hl (fun A' act' w' hl' => ?_))
      have := hQ A' act' w' hl'
      cases e <;> exact this
    | rangeFunc _ _ _ _ => simp [exec] at h
    | goto _ => simp [exec] at h
    | refuse _ => simp [exec] at h
end

/-! ### What a call hands over. -/
section
variable {env : Env} {A : Gh} {F : Nat → Prop} {w : World} {m : Mem} {H0 N0 base : Nat}

theorem WOK.handOver (h : WOK env A F w m H0 N0) {o : OId} {sz : Nat} {es : List (List AVal)} (hst : (m.obj o).st = .row sz es) {b tot : Nat} (hA : A o (m.obj o).gen = some (b, sz, tot)) :
    WOK env A (fun x => F x ∨ x = b) w (m.put o ⟨(m.obj o).gen, .dead⟩) H0 N0 ∧ (∀ x, Own A (m.put o ⟨(m.obj o).gen, .dead⟩) (fun x => F x ∨ x = b) x → Own A m F x) := by
  have hold : ownedSt (m.obj o).st = true := by rw [hst]; rfl
  have hobj : ∀ o', (m.put o ⟨(m.obj o).gen, .dead⟩).obj o' = if o' = o then ⟨(m.obj o).gen, .dead⟩ else m.obj o' := fun o' => obj_put m o o' _
  have hX : ∀ x, Own A (m.put o ⟨(m.obj o).gen, .dead⟩) (fun x => F x ∨ x = b) x → Own A m F x := by
    rintro x ((hF | rfl) | ⟨o', s, t, h1, h2⟩)
    · exact .inl hF
    · exact .inr ⟨o, _, _, hold, hA⟩
    · rw [hobj] at h1 h2
      by_cases e : o' = o
      · subst e; rw [if_pos rfl] at h1; simp [ownedSt] at h1
      · rw [if_neg e] at h1 h2; exact .inr ⟨o', s, t, h1, h2⟩
  refine ⟨?_, hX⟩
  refine { obj := fun o' => ?_, inj := ?_, sep := ?_, bound := ?_, gens := ?_, gn := ?_, fresh := ?_, nle := by rw [put_n]; exact h.nle, hle := h.hle, glob := fun g cs hg => (h.glob g cs hg).shrink hX }
  · rw [hobj]
    by_cases e : o' = o
    · subst e; rw [if_pos rfl]; trivial
    · rw [if_neg e]
      have hob := h.obj o'
      unfold ObjOK at hob ⊢
      cases hs : (m.obj o').st with
      | dead => trivial
      | ro s es =>
        rw [hs] at hob
        obtain ⟨b', a', t, fr, h1, h2, h3, h4⟩ := hob
        exact ⟨b', a', t, fr, h1, h2, h3.sub hX, fun e => h4 (hX _ e)⟩
      | row s es =>
        rw [hs] at hob
        obtain ⟨b', a', t, h1, h2, h3⟩ := hob
        exact ⟨b', a', t, h1, h2, h3.sub hX⟩
      | box cs =>
        rw [hs] at hob
        obtain ⟨b', a', t, h1, h2, h3, h4⟩ := hob
        exact ⟨b', a', t, h1, h2, ⟨h3.1, fun j x hx => (h3.2 j x hx).shrink hX⟩, h4⟩
  · intro o1 o2 x s t s' t' h1 h2 h3 h4
    rw [hobj] at h1 h2 h3 h4
    by_cases e1 : o1 = o
    · subst e1; rw [if_pos rfl] at h1; simp [ownedSt] at h1
    · by_cases e2 : o2 = o
      · subst e2; rw [if_pos rfl] at h2; simp [ownedSt] at h2
      · rw [if_neg e1] at h1 h3
        rw [if_neg e2] at h2 h4
        exact h.inj o1 o2 x s t s' t' h1 h2 h3 h4
  · rintro o' x s t h1 h2 hF
    rw [hobj] at h1 h2
    by_cases e1 : o' = o
    · subst e1; rw [if_pos rfl] at h1; simp [ownedSt] at h1
    · rw [if_neg e1] at h1 h2
      rcases hF with hF | rfl
      · exact h.sep o' x s t h1 h2 hF
      · exact e1 (h.inj o' o x _ _ _ _ h1 hold h2 hA)
  · rintro x (hF | rfl)
    · exact h.bound x hF
    · exact A_lt h (owned_live hold) hA
  · intro o' g hg
    rw [hobj] at hg
    by_cases e1 : o' = o
    · subst e1; rw [if_pos rfl] at hg; exact h.gens _ g hg
    · rw [if_neg e1] at hg; exact h.gens o' g hg
  · intro k hk
    rw [put_n] at hk
    rw [hobj]
    by_cases e1 : OId.glob k = o
    · rw [if_pos e1]; exact ⟨rfl, (h.gn k hk).2⟩
    · rw [if_neg e1]; exact h.gn k hk
  · intro o' hkind x s t hl hA'
    rw [hobj] at hl hA'
    by_cases e1 : o' = o
    · subst e1; rw [if_pos rfl] at hl; exact absurd rfl hl
    · rw [if_neg e1] at hl hA'
      exact h.fresh o' hkind x s t hl hA'

theorem put_ext (w : World) (F : Nat → Prop) (A : Gh) {o : OId} {sz : Nat} {es : List (List AVal)} (hst : (m.obj o).st = .row sz es) (hmw : mayWrite base o = true) (st' : OSt) (hs : ownedSt st' = false) : Ext base F A m w A (m.put o ⟨(m.obj o).gen, st'⟩) w := by
  have hobj : ∀ o', (m.put o ⟨(m.obj o).gen, st'⟩).obj o' = if o' = o then ⟨(m.obj o).gen, st'⟩ else m.obj o' := fun o' => obj_put m o o' _
  refine { le := .refl _, size := Nat.le_refl _, os := rfl, tape := rfl, output := rfl, heap := fun _ _ _ => rfl, own := ?_, wr := ?_, keep := ?_, keepG := ?_, nle := by rw [put_n]; exact Nat.le_refl _ }
  · rintro b _ (hF | ⟨o', s, t, h1, h2⟩)
    · exact .inl hF
    · rw [hobj] at h1 h2
      by_cases e : o' = o
      · subst e; rw [if_pos rfl] at h1; rw [hs] at h1; cases h1
      · rw [if_neg e] at h1 h2; exact .inr ⟨o', s, t, h1, h2⟩
  · rintro b _ ⟨o', s, t, h1, h3, h2⟩
    rw [hobj] at h1 h2
    by_cases e : o' = o
    · subst e; rw [if_pos rfl] at h1; rw [hs] at h1; cases h1
    · rw [if_neg e] at h1 h2; exact ⟨o', s, t, h1, h3, h2⟩
  · intro o' b s t h1 h2 _
    rw [hobj] at h1 h2
    by_cases e : o' = o
    · subst e; rw [if_pos rfl] at h2; exact ⟨s, t, by rw [hst]; simp, h2⟩
    · rw [if_neg e] at h1 h2; exact ⟨s, t, h1, h2⟩
  · intro k hk
    rw [hobj, if_neg]
    intro e
    rw [← e] at hmw
    simp [mayWrite] at hmw
    omega
theorem frz_ext {a a' : AVal} {m1 : Option Mem} (h : frz base m a = some (a', m1)) (w : World) (F : Nat → Prop) (A : Gh) : Ext base F A m w A (m1.getD m) w := by
  unfold frz at h
  split at h
  · cases h; exact .refl ..
  · simp only at h
    split at h
    · rename_i hg
      split at h
      · split at h
        · cases h; exact .refl ..
        · cases h
      · rename_i sz es hst
        split at h
        · rename_i hc
          simp only [Bool.and_eq_true, decide_eq_true_eq] at hc
          cases h
          have := put_ext w F A hst hc.2 (.ro sz es) rfl
          rw [hg] at this
          exact this
        · cases h
      · cases h
    · cases h
  · split at h
    · cases h; exact .refl ..
    · cases h
theorem frzL_ext (w : World) (F : Nat → Prop) (A : Gh) : ∀ {l : List AVal} {m : Mem} {l' : List AVal} {m1 : Option Mem}, frzL base m l = some (l', m1) → Ext base F A m w A (m1.getD m) w
  | [], m, l', m1, h => by simp only [frzL, Option.some.injEq, Prod.mk.injEq] at h; rw [← h.2]; exact .refl ..
  | a :: l, m, l', m1, h => by
    simp only [frzL] at h
    split at h
    · cases h
    · rename_i hf
      split at h
      · cases h
      · rename_i hl
        simp only [Option.some.injEq, Prod.mk.injEq] at h
        rw [← h.2, orM_getD]
        exact (frz_ext hf w F A).trans (frzL_ext w F A hl)
theorem pass_ext {a a' : AVal} {m1 : Option Mem} (h : pass base m a = some (a', m1)) (w : World) (F : Nat → Prop) (A : Gh) : Ext base F A m w A (m1.getD m) w := by
  unfold pass at h
  split at h
  · cases h; exact .refl ..
  · exact frz_ext h w F A
  · split at h
    · cases h; exact .refl ..
    · cases h
theorem passL_ext (w : World) (F : Nat → Prop) (A : Gh) : ∀ {l : List AVal} {m : Mem} {l' : List AVal} {m1 : Option Mem}, passL base m l = some (l', m1) → Ext base F A m w A (m1.getD m) w
  | [], m, l', m1, h => by simp only [passL, Option.some.injEq, Prod.mk.injEq] at h; rw [← h.2]; exact .refl ..
  | a :: l, m, l', m1, h => by
    simp only [passL] at h
    split at h
    · cases h
    · rename_i hf
      split at h
      · cases h
      · rename_i hl
        simp only [Option.some.injEq, Prod.mk.injEq] at h
        rw [← h.2, orM_getD]
        exact (pass_ext hf w F A).trans (passL_ext w F A hl)

/-- What is handed over of one value. -/
def Given1 (env : Env) (A : Gh) (F : Nat → Prop) (w : World) (H0 N0 base : Nat) (B0 : List Nat) (m m' : Mem) (v : Value) (r : RV) (ok : RV → Bool) : Prop :=
  ∃ B1, WOK env A (fun x => F x ∨ x ∈ B1 ∨ x ∈ B0) w m' H0 N0 ∧ (∀ F, Ext base F A m w A m' w) ∧ (∀ x, Own A m' (fun x => F x ∨ x ∈ B1 ∨ x ∈ B0) x → Own A m (fun x => F x ∨ x ∈ B0) x) ∧
    GivenL A (Own A m' (fun x => F x ∨ x ∈ B1 ∨ x ∈ B0)) w [v] [r] B1 ∧ (∀ b ∈ B1, H0 ≤ b ∧ b ∉ B0) ∧ B1.Nodup ∧ ok r = true
theorem given_frz {B0 : List Nat} (h : WOK env A (fun x => F x ∨ x ∈ B0) w m H0 N0) {v : Value} {a a' : AVal} {m1 : Option Mem} (hr : Rep A (Own A m (fun x => F x ∨ x ∈ B0)) w v a) (hf : frz base m a = some (a', m1)) (ok : RV → Bool) (hok : ∀ a : AVal, a.fixed = true → ok (.v a) = true) :
    Given1 env A F w H0 N0 base B0 m (m1.getD m) v (.v a') ok := by
  obtain ⟨h1, h2, h3, h4⟩ := frz_spec h base hr hf
  refine ⟨[], by simpa using h1, fun F => frz_ext hf w F A, fun x hx => ?_, .v v a' [] [] [] (by simpa using h3) .nil, by simp, List.nodup_nil, hok a' h4⟩
  have hx' : Own A (m1.getD m) (fun x => F x ∨ x ∈ B0) x := by simpa using hx
  exact h2.own x (h1.own_lt hx') hx'
theorem giveCells_spec {B0 : List Nat} (h : WOK env A (fun x => F x ∨ x ∈ B0) w m H0 N0) {v : Value} {a : AVal} {r : RV} {m' : Mem} (hr : Rep A (Own A m (fun x => F x ∨ x ∈ B0)) w v a) (hf : giveCells base m a = some (r, m')) (ok : RV → Bool) (hok : ∀ a : AVal, a.fixed = true → ok (.v a) = true) (hoka : ∀ cs : List AVal, cs.all AVal.fixed = true → ok (.v (.agg cs)) = true) (hokr : ∀ sz es, ok (.row sz es) = true)
    (hgl : ∀ k g lo n, a = .hs (.glob k) g lo n → base = N0) : Given1 env A F w H0 N0 base B0 m m' v r ok := by
  have gfrz : ((frz base m a).map fun (a, m1) => (RV.v a, m1.getD m)) = some (r, m') → Given1 env A F w H0 N0 base B0 m m' v r ok := by
    intro hf
    obtain ⟨⟨a', m1⟩, hf2, e⟩ := Option.map_eq_some_iff.1 hf
    cases e
    exact given_frz h hr hf2 ok hok
  unfold giveCells at hf
  split at hf
  · rename_i cs
    obtain ⟨⟨cs', m1⟩, hf2, e⟩ := Option.map_eq_some_iff.1 hf
    cases e
    obtain ⟨vs, rfl, hs, hrr⟩ := hr.agg_inv
    obtain ⟨h1, h2, h3, h4⟩ := frzL_spec base vs.toList cs cs' m m1 h ⟨by simpa using hs, fun j x hx => by simpa using hrr j x hx⟩ hf2
    refine ⟨[], by simpa using h1, fun F => frzL_ext w F A hf2, fun x hx => ?_, .v _ _ [] [] [] ?_ .nil, by simp, List.nodup_nil, hoka cs' h4⟩
    · have hx' : Own A (m1.getD m) (fun x => F x ∨ x ∈ B0) x := by simpa using hx
      exact h2.own x (h1.own_lt hx') hx'
    · have h3' : RepL A (Own A (m1.getD m) (fun x => F x ∨ x ∈ ([] : List Nat) ∨ x ∈ B0)) w vs.toList cs' := by simpa using h3
      exact .agg vs cs' (by simpa using h3'.1) (fun j x hx => by simpa using h3'.2 j x hx)
  · rename_i o g lo n
    simp only at hf
    split at hf
    · rename_i hg
      split at hf
      · rename_i sz es hst
        split at hf
        · rename_i hc
          simp only [Bool.and_eq_true, decide_eq_true_eq] at hc
          obtain ⟨⟨rfl, hen⟩, hmw⟩ := hc
          cases hf
          obtain ⟨b, s, tot, c, hA, hc, ht, rfl⟩ := hr.hs_inv
          have hob := h.obj o
          unfold ObjOK at hob
          rw [hst] at hob
          obtain ⟨b', arr, ty, k1, k2, k3⟩ := hob
          rw [hg, hA] at k1
          simp only [Option.some.injEq, Prod.mk.injEq] at k1
          obtain ⟨rfl, rfl, rfl⟩ := k1
          subst hen
          obtain ⟨q1, q2⟩ := h.handOver hst (by rw [hg]; exact hA)
          have hext := fun F => put_ext w F A hst hmw .dead rfl
          rw [hg] at q1 q2 hext
          have e1 : (fun x => (F x ∨ x ∈ B0) ∨ x = b) = (fun x => F x ∨ x ∈ [b] ∨ x ∈ B0) := by
            funext x; simp only [List.mem_singleton]; apply propext; constructor
            · rintro ((h | h) | h)
              · exact .inl h
              · exact .inr (.inr h)
              · exact .inr (.inl h)
            · rintro (h | h | h)
              · exact .inl (.inl h)
              · exact .inr h
              · exact .inl (.inr h)
          rw [e1] at q1 q2
          refine ⟨[b], q1, hext, q2, ?_, ?_, by simp, hokr _ _⟩
          · have := GivenL.row (A := A) (X := Own A (m.put o ⟨g, .dead⟩) (fun x => F x ∨ x ∈ [b] ∨ x ∈ B0)) (w := w) b c s es arr ty [] [] [] hc k2 (by rw [Nat.zero_add] at ht; exact ht) (k3.sub q2) .nil
            simpa using this
          · intro x hx
            simp only [List.mem_singleton] at hx
            subst hx
            refine ⟨?_, fun hB => h.sep o x _ _ (by rw [hst]; rfl) (by rw [hg]; exact hA) (.inr hB)⟩
            refine h.fresh o ?_ x s arr.size (by rw [hst]; simp) (by rw [hg]; exact hA)
            cases o with
            | loc k => exact .inl ⟨k, rfl⟩
            | glob k =>
              refine .inr ⟨k, rfl, ?_⟩
              rw [← hgl k g 0 es.length rfl]
              simpa [mayWrite] using hmw
        · exact gfrz hf
      · exact gfrz hf
    · cases hf
  · exact gfrz hf
theorem fixed_shared {a : AVal} (h : a.fixed = true) : a.shared = true := by
  cases a <;> simp_all [AVal.fixed, AVal.shared]
  split at h <;> simp_all
theorem fixed_argOK {a : AVal} (h : a.fixed = true) : argOK a = true := by
  cases a <;> first | exact fixed_shared h | (simp [AVal.fixed] at h)
theorem fixed_aggFix {a : AVal} (h : a.fixed = true) : aggFix a = true := by
  cases a <;> first | exact h | (simp [AVal.fixed] at h)
theorem giveShared_spec {B0 : List Nat} (h : WOK env A (fun x => F x ∨ x ∈ B0) w m H0 N0) {v : Value} {a : AVal} {r : RV} {m' : Mem} (hr : Rep A (Own A m (fun x => F x ∨ x ∈ B0)) w v a) (hf : giveShared base m a = some (r, m')) : Given1 env A F w H0 N0 base B0 m m' v r rvArg := by
  have same : ∀ a, Rep A (Own A m (fun x => F x ∨ x ∈ B0)) w v a → argOK a = true → some (RV.v a, m) = some (r, m') → Given1 env A F w H0 N0 base B0 m m' v r rvArg := by
    intro a hra ha e
    cases e
    exact ⟨[], by simpa using h, fun F => .refl .., fun x hx => by simpa using hx, .v v a [] [] [] (by simpa using hra) .nil, by simp, List.nodup_nil, ha⟩
  unfold giveShared at hf
  split at hf
  · exact same _ hr rfl hf
  · exact same _ hr rfl hf
  · rename_i cs
    obtain ⟨⟨cs', m1⟩, hf2, e⟩ := Option.map_eq_some_iff.1 hf
    cases e
    obtain ⟨vs, rfl, hs, hrr⟩ := hr.agg_inv
    obtain ⟨h1, h2, h3, h4⟩ := passL_spec base vs.toList cs cs' m m1 h ⟨by simpa using hs, fun j x hx => by simpa using hrr j x hx⟩ hf2
    refine ⟨[], by simpa using h1, fun F => passL_ext w F A hf2, fun x hx => ?_, .v _ _ [] [] [] ?_ .nil, by simp, List.nodup_nil, h4⟩
    · have hx' : Own A (m1.getD m) (fun x => F x ∨ x ∈ B0) x := by simpa using hx
      exact h2.own x (h1.own_lt hx') hx'
    · have h3' : RepL A (Own A (m1.getD m) (fun x => F x ∨ x ∈ ([] : List Nat) ∨ x ∈ B0)) w vs.toList cs' := by simpa using h3
      exact .agg vs cs' (by simpa using h3'.1) (fun j x hx => by simpa using h3'.2 j x hx)
  · rename_i g first caps
    split at hf
    · rename_i hsh; exact same _ hr hsh hf
    · cases hf
  · rename_i hne1 hne2 hne3 hne4
    exact giveCells_spec h hr hf rvArg (fun _ => fixed_argOK) (fun cs hcs => all_imp (fun _ => fixed_shared) hcs) (fun _ _ => rfl) (fun k g lo n e => absurd e (hne2 k g lo n))
theorem GivenL.append1 {X : Nat → Prop} {v : Value} {r : RV} {B1 : List Nat} (h : GivenL A X w [v] [r] B1) {vs : List Value} {rs : List RV} {B : List Nat} (k : GivenL A X w vs rs B) : GivenL A X w (v :: vs) (r :: rs) (B1 ++ B) := by
  cases h with
  | v _ a _ _ _ hr ht => cases ht; exact .v v a vs rs B hr k
  | row b c sz es arr ty _ _ _ hc hb hs hr ht => cases ht; exact .row b c sz es arr ty vs rs B hc hb hs hr k
theorem gives_spec (eff : Bool) (hN : eff = false → base = N0) : ∀ (as : List AVal) (vs : List Value) (m m' : Mem) (B0 : List Nat) (rs : List RV), WOK env A (fun x => F x ∨ x ∈ B0) w m H0 N0 → RepL A (Own A m (fun x => F x ∨ x ∈ B0)) w vs as → gives eff base m as = some (rs, m') →
    ∃ B, WOK env A (fun x => F x ∨ x ∈ B ∨ x ∈ B0) w m' H0 N0 ∧ (∀ F, Ext base F A m w A m' w) ∧ (∀ x, Own A m' (fun x => F x ∨ x ∈ B ∨ x ∈ B0) x → Own A m (fun x => F x ∨ x ∈ B0) x) ∧ GivenL A (Own A m' (fun x => F x ∨ x ∈ B ∨ x ∈ B0)) w vs rs B ∧ (∀ b ∈ B, H0 ≤ b ∧ b ∉ B0) ∧ B.Nodup ∧
      (if eff then rs.all rvArg else rs.all rvFix) = true
  | [], vs, m, m', B0, rs, h, hr, hf => by
    have : vs = [] := List.eq_nil_of_length_eq_zero (by simpa using hr.1)
    subst this
    simp only [gives, Option.some.injEq, Prod.mk.injEq] at hf
    obtain ⟨rfl, rfl⟩ := hf
    exact ⟨[], by simpa using h, fun F => .refl .., fun x hx => by simpa using hx, .nil, by simp, List.nodup_nil, by split <;> rfl⟩
  | a :: as, [], m, m', B0, rs, h, hr, hf => by have := hr.1; simp at this
  | a :: as, v :: vs, m, m', B0, rs, h, hr, hf => by
    simp only [gives] at hf
    split at hf
    · cases hf
    · rename_i r m1 hg1
      split at hf
      · cases hf
      · rename_i rs' m2 hrest
        simp only [Option.some.injEq, Prod.mk.injEq] at hf
        obtain ⟨rfl, rfl⟩ := hf
        have hone : Given1 env A F w H0 N0 base B0 m m1 v r (if eff then rvArg else rvFix) := by
          cases eff with
          | true => exact giveShared_spec h hr.head hg1
          | false => exact giveCells_spec h hr.head hg1 rvFix (fun _ => fixed_aggFix) (fun _ h => h) (fun _ _ => rfl) (fun _ _ _ _ _ => hN rfl)
        obtain ⟨B1, q1, q2, q3, q4, q5, q6, q7⟩ := hone
        have e1 : (fun x => F x ∨ x ∈ B1 ∨ x ∈ B0) = (fun x => F x ∨ x ∈ B1 ++ B0) := by funext x; simp
        rw [e1] at q1 q3 q4
        obtain ⟨B2, p1, p2, p3, p4, p5, p6, p7⟩ := gives_spec eff hN as vs m1 m2 (B1 ++ B0) rs' q1 (hr.tail.mono (.refl _) (fun _ _ _ => rfl) (fun x _ => q3 x)) hrest
        have e2 : (fun x => F x ∨ x ∈ B2 ∨ x ∈ B1 ++ B0) = (fun x => F x ∨ x ∈ B1 ++ B2 ∨ x ∈ B0) := by
          funext x; apply propext; simp only [List.mem_append]; constructor
          · rintro (h | h | h | h)
            · exact .inl h
            · exact .inr (.inl (.inr h))
            · exact .inr (.inl (.inl h))
            · exact .inr (.inr h)
          · rintro (h | (h | h) | h)
            · exact .inl h
            · exact .inr (.inr (.inl h))
            · exact .inr (.inl h)
            · exact .inr (.inr (.inr h))
        rw [e2] at p1 p3 p4
        refine ⟨B1 ++ B2, p1, fun F => (q2 F).trans (p2 F), fun x hx => q3 x (p3 x hx), (q4.mono (.refl _) p3).append1 p4, ?_, ?_, ?_⟩
        · intro b hb
          rcases List.mem_append.1 hb with hb | hb
          · exact q5 b hb
          · exact ⟨(p5 b hb).1, fun e => (p5 b hb).2 (List.mem_append.2 (.inr e))⟩
        · rw [List.nodup_append]
          exact ⟨q6, p6, fun x hx y hy e => (p5 y hy).2 (List.mem_append.2 (.inl (e ▸ hx)))⟩
        · cases eff <;> simp_all

/-- A callee's own objects go. -/
theorem WOK.drop {L : Tbl AObj} {gs : GS} (h : WOK env A F w ⟨L, gs⟩ H0 N0) : WOK env (globsOf A) F w ⟨noL, gs⟩ H0 N0 ∧ (∀ b, Own (globsOf A) ⟨noL, gs⟩ F b → Own A ⟨L, gs⟩ F b) := by
  have hX : ∀ b, Own (globsOf A) ⟨noL, gs⟩ F b → Own A ⟨L, gs⟩ F b := by
    rintro b (hF | ⟨o, s, t, h1, h2⟩)
    · exact .inl hF
    · cases o with
      | loc k => rw [obj_noL] at h1; simp [AObj.none, ownedSt] at h1
      | glob k => exact .inr ⟨.glob k, s, t, h1, h2⟩
  have hg : ∀ k g x, A (.glob k) g = some x → globsOf A (.glob k) g = some x := fun _ _ _ h => h
  refine ⟨?_, hX⟩
  refine { obj := fun o => ?_, inj := ?_, sep := ?_, bound := h.bound, gens := ?_, gn := fun k hk => ⟨(h.gn k hk).1, fun g => (h.gn k hk).2 g⟩, fresh := ?_, nle := h.nle, hle := h.hle, glob := fun g cs hgl => ((h.glob g cs hgl).fixed_any rfl).shrink hX }
  · cases o with
    | loc k => rw [obj_noL]; trivial
    | glob k =>
      have hob := h.obj (.glob k)
      rw [obj_globL] at hob
      unfold ObjOK at hob ⊢
      cases hs : (Mem.obj ⟨noL, gs⟩ (.glob k)).st with
      | dead => trivial
      | ro s es =>
        rw [hs] at hob
        obtain ⟨b, a', t, fr, h1, h2, h3, h4⟩ := hob
        exact ⟨b, a', t, fr, h1, h2, h3.any.sub hX, fun e => h4 (hX b e)⟩
      | row s es =>
        rw [hs] at hob
        obtain ⟨b, a', t, h1, h2, h3⟩ := hob
        exact ⟨b, a', t, h1, h2, h3.any.sub hX⟩
      | box cs =>
        rw [hs] at hob
        obtain ⟨b, a', t, h1, h2, h3, h4, h5⟩ := hob
        exact ⟨b, a', t, h1, h2, ⟨h3.1, fun j x hx => ((h3.2 j x hx).shared_any (all_get (h5 k rfl) hx) hg).shrink hX⟩, h4, h5⟩
  · intro o o' b s t s' t' h1 h2 h3 h4
    cases o with
    | loc k => rw [obj_noL] at h1; simp [AObj.none, ownedSt] at h1
    | glob k => cases o' with
      | loc k' => rw [obj_noL] at h2; simp [AObj.none, ownedSt] at h2
      | glob k' => exact h.inj (.glob k) (.glob k') b s t s' t' h1 h2 h3 h4
  · rintro o b s t h1 h2
    cases o with
    | loc k => rw [obj_noL] at h1; simp [AObj.none, ownedSt] at h1
    | glob k => exact h.sep (.glob k) b s t h1 h2
  · intro o g hg'
    cases o with
    | loc k => rfl
    | glob k => exact h.gens (.glob k) g hg'
  · intro o hk b s t hl hA
    cases o with
    | loc k => rw [obj_noL] at hl; exact absurd rfl hl
    | glob k =>
      refine h.fresh (.glob k) ?_ b s t hl hA
      rcases hk with ⟨k', e⟩ | ⟨k', e, hle⟩
      · cases e
      · exact .inr ⟨k', e, hle⟩
theorem Ext.drop {A0 : Gh} {gs0 : GS} {w0 : World} {L : Tbl AObj} {gs : GS} (hloc : ∀ k g, A0 (.loc k) g = none) (h : Ext base F A0 ⟨noL, gs0⟩ w0 A ⟨L, gs⟩ w) : Ext base F A0 ⟨noL, gs0⟩ w0 (globsOf A) ⟨noL, gs⟩ w := by
  refine { le := ?_, size := h.size, os := h.os, tape := h.tape, output := h.output, heap := h.heap, own := ?_, wr := ?_, keep := ?_, keepG := fun k hk => h.keepG k hk, nle := h.nle }
  · intro o g x hx
    cases o with
    | loc k => rw [hloc] at hx; cases hx
    | glob k => exact h.le _ _ _ hx
  · rintro b hb (hF | ⟨o, s, t, h1, h2⟩)
    · exact .inl hF
    · cases o with
      | loc k => rw [obj_noL] at h1; simp [AObj.none, ownedSt] at h1
      | glob k => exact h.own b hb (.inr ⟨.glob k, s, t, h1, h2⟩)
  · rintro b hb ⟨o, s, t, h1, h3, h2⟩
    cases o with
    | loc k => rw [obj_noL] at h1; simp [AObj.none, ownedSt] at h1
    | glob k => exact h.wr b hb ⟨.glob k, s, t, h1, h3, h2⟩
  · intro o b s t h1 h2 hb
    cases o with
    | loc k => rw [obj_noL] at h1; exact absurd rfl h1
    | glob k => exact h.keep (.glob k) b s t h1 h2 hb
end

/-! ### Into a function and out of it. -/
theorem enter_get : ∀ (args : List AVal) (k : Nat) (t : Tbl AVal) (j : Nat), ((args.foldl (fun (p : Nat × Tbl AVal) a => (p.1 + 1, p.2.set .undef p.1 a)) (k, t)).2).get .undef j = if k ≤ j ∧ j < k + args.length then args.getD (j - k) .undef else t.get .undef j
  | [], k, t, j => by rw [if_neg (by simp only [List.length_nil]; omega)]; rfl
  | a :: args, k, t, j => by
    rw [List.foldl_cons, enter_get args (k + 1) _ j, Tbl.get_set]
    by_cases h1 : k + 1 ≤ j ∧ j < k + 1 + args.length
    · rw [if_pos h1, if_pos (by simp only [List.length_cons]; omega)]
      obtain ⟨d, rfl⟩ : ∃ d, j = k + 1 + d := ⟨j - (k + 1), by omega⟩
      rw [show k + 1 + d - (k + 1) = d by omega, show k + 1 + d - k = d + 1 by omega]
      simp
    · rw [if_neg h1]
      by_cases h2 : j = k
      · subst h2; rw [if_pos rfl, if_pos (by simp)]; simp
      · rw [if_neg h2, if_neg (by simp; omega)]
theorem enterFr_get (args : List AVal) (j : Nat) : (enterFr args).get .undef j = args.getD j .undef := by
  unfold enterFr
  rw [enter_get args 0 ⟨[]⟩ j]
  by_cases h : j < args.length
  · rw [if_pos (by omega)]; simp
  · rw [if_neg (by omega), Tbl.get_nil]; simp [List.getElem?_eq_none (by omega : args.length ≤ j)]

theorem mapM_run {P : Program} {α : Type} (g : α → Sem Value) : ∀ (l : List α) (w : World) (vs : List Value), vs.length = l.length → (∀ (j : Nat) (x : α), l[j]? = some x → ∃ v, vs[j]? = some v ∧ (g x).run P w = .ok v w) → (l.mapM g).run P w = .ok vs w
  | [], w, vs, hl, h => by
    have : vs = [] := List.eq_nil_of_length_eq_zero (by simpa using hl)
    subst this; simp
  | a :: l, w, [], hl, h => by simp at hl
  | a :: l, w, v :: vs, hl, h => by
    obtain ⟨v', hv', hrun⟩ := h 0 a (by simp)
    simp at hv'
    subst hv'
    have := mapM_run g l w vs (by simpa using hl) (fun j x hx => by simpa using h (j + 1) x (by simpa using hx))
    simp [List.mapM_cons, hrun, this]
theorem results_spec {P : Program} {env : Env} (hE : EnvOK P env) {A : Gh} {F : Nat → Prop} {w : World} {s : St} {H0 N0 : Nat} (h : WOK env A F w s.m H0 N0) {tmps : Array Value} (hfr : ∀ t, Rep A (Own A s.m F) w (tmps.getD t undef) (s.get t)) {fn : Func} {as : List AVal} (ha : fn.results.toList.mapM (resultOf env s) = some as) :
    ∃ vs, (results fn tmps).run P w = .ok (resV vs) w ∧ RepL A (Own A s.m F) w vs as := by
  have one : ∀ rv a, resultOf env s rv = some a → ∃ v, (match rv with | .tmp t => pure (tmps.getD t undef) | .cell a t => do loadVar t (← asAddr (tmps.getD a undef)) : Sem Value).run P w = .ok v w ∧ Rep A (Own A s.m F) w v a := by
    intro rv a hra
    cases rv with
    | tmp t =>
      simp only [resultOf, Option.some.injEq] at hra
      subst hra
      exact ⟨_, rfl, hfr t⟩
    | cell a' t =>
      simp only [resultOf] at hra
      split at hra
      · rename_i o g i off hget
        obtain ⟨n, hn, hra⟩ := Option.bind_eq_some_iff.1 hra
        obtain ⟨cs, hs, hp⟩ := Option.bind_eq_some_iff.1 hra
        have hp' := hfr a'
        rw [hget] at hp'
        obtain ⟨b, sz, tot, hA, hv⟩ := hp'.hp_inv
        obtain ⟨us, hc, hr, hl⟩ := read_spec h hs hA
        obtain ⟨v, hrun, hrep⟩ := pack_load hE hn hp hr hl hc
        refine ⟨v, ?_, hrep⟩
        simp [hv, asAddr, hrun]
      · cases hra
  obtain ⟨h1, h2⟩ := mapM_get ha
  -- choose the values
  have : ∀ (l : List ResultVar) (as : List AVal), l.mapM (resultOf env s) = some as → ∃ vs : List Value, vs.length = l.length ∧ (∀ (j : Nat) (x : ResultVar), l[j]? = some x → ∃ v, vs[j]? = some v ∧ (match x with | .tmp t => pure (tmps.getD t undef) | .cell a t => do loadVar t (← asAddr (tmps.getD a undef)) : Sem Value).run P w = .ok v w) ∧ RepL A (Own A s.m F) w vs as := by
    intro l
    induction l with
    | nil => intro as h; simp at h; subst h; exact ⟨[], rfl, by simp, .nil⟩
    | cons r l ih =>
      intro as h
      rw [List.mapM_cons] at h
      cases hr : resultOf env s r with
      | none => simp [hr] at h
      | some a =>
        cases hl : l.mapM (resultOf env s) with
        | none => simp [hr, hl] at h
        | some bs =>
          simp [hr, hl] at h
          subst h
          obtain ⟨v, hv, hrep⟩ := one r a hr
          obtain ⟨vs, q1, q2, q3⟩ := ih bs hl
          refine ⟨v :: vs, by simp [q1], fun j x hx => ?_, .cons hrep q3⟩
          cases j with
          | zero => simp at hx; subst hx; exact ⟨v, by simp, hv⟩
          | succ j => simp at hx; simpa using q2 j x hx
  obtain ⟨vs, q1, q2, q3⟩ := this _ _ ha
  refine ⟨vs, ?_, q3⟩
  unfold results
  rw [Array.mapM_eq_mapM_toList]
  simp only [Sem.run_bind, Sem.run_map]
  rw [mapM_run (P := P) _ fn.results.toList w vs q1 (fun j x hx => by obtain ⟨v, e1, e2⟩ := q2 j x hx; exact ⟨v, e1, by cases x <;> exact e2⟩)]
  simp only [Result.andThen_ok, Sem.run_pure, List.size_toArray]
  match vs with
  | [v] => simp [resV]
  | [] => simp [resV]
  | a :: b :: l => simp [resV]

/-- What functions that are not walked through here answer. -/
def ExtOK (P : Program) (env : Env) : Prop := Sound P env (fun f args base gs => match env.ext f with | some g => g args base gs | none => none)

theorem call_sound {P : Program} {env : Env} (hE : EnvOK P env) (hX : ExtOK P env) : ∀ n, Sound P env (call env n) := by
  intro n
  induction n with
  | zero => intro g args base gs rs gs' h; simp [call] at h
  | succ n ih =>
    intro g args base gs rs gs' h hargs hbase heff
    cases hext : env.ext g with
    | some k =>
      have h' : (fun f args base gs => match env.ext f with | some g => g args base gs | none => none : CallF) g args base gs = some (rs, gs') := by
        simp only [call, hext] at h
        simp only [hext]; exact h
      exact hX g args base gs rs gs' h' hargs hbase heff
    | none =>
      simp only [call, hext] at h
      cases hfn : env.funcs g with
      | none => simp [hfn] at h
      | some fn =>
        simp only [hfn] at h
        cases hb : fn.body with
        | none => simp [hb] at h
        | some c =>
          simp only [hb] at h
          refine ⟨⟨fn, rfl, by rw [hb]; rfl⟩, fun A F w vargs hloc hW hr => ?_⟩
          split at h
          · rename_i hlen
            obtain ⟨hP, hname⟩ := hE.funcs _ _ hfn
            have hok := hE.regions g fn c hfn hb
            generalize hex : exec (call env n) env g base fn.ntmps n c ⟨enterFr args, ⟨⟨[]⟩, gs⟩⟩ = r at h
            have fin : ∀ e s, (e = .normal ∨ e = .ret) → r = some (e, s) → ((fn.results.toList.mapM (resultOf env s)).bind fun rs => (gives (env.eff g) base s.m rs).map fun (rs, m) => (rs, m.gs)) = some (rs, gs') →
                Calls P g vargs.toArray w fun e w' => ∃ v, e = .returned v ∧ CallPost env (env.eff g) base A F w gs rs gs' v w' := by
              rintro e s he rfl hgv
              obtain ⟨as, has, hgv1⟩ := Option.bind_eq_some_iff.1 hgv
              obtain ⟨⟨rs', m'⟩, hg, e2⟩ := Option.map_eq_some_iff.1 hgv1
              simp only [Prod.mk.injEq] at e2
              obtain ⟨rfl, rfl⟩ := e2
              refine calls_of_wp hP hb ?_
              have hvl : vargs.length = args.length := hr.1
              have hl0 : Live env F w.heap.size gs.n base fn.ntmps A ⟨noL, gs⟩ w A { tmps := vargs.toArray ++ Array.replicate (fn.ntmps - vargs.toArray.size) undef, defers := [] } w ⟨enterFr args, ⟨noL, gs⟩⟩ := by
                refine ⟨hW, fun t => ?_, by simp; omega, rfl, .refl .., hbase⟩
                show Rep A _ w _ ((enterFr args).get .undef t)
                rw [enterFr_get]
                by_cases ht : t < args.length
                · have := hr.2 t args[t] (List.getElem?_eq_getElem ht)
                  have e1 : args.getD t .undef = args[t] := by simp [List.getD_eq_getElem?_getD, List.getElem?_eq_getElem ht]
                  rw [e1]
                  have e2 : (vargs.toArray ++ Array.replicate (fn.ntmps - vargs.toArray.size) undef).getD t undef = vargs.getD t undef := by
                    have ht' : t < vargs.length := by omega
                    simp [Array.getElem?_append, ht', List.getD_eq_getElem?_getD]
                  rw [e2]
                  exact this
                · have e1 : args.getD t AVal.undef = .undef := by simp [List.getElem?_eq_none (by omega : args.length ≤ t)]
                  rw [e1]
                  exact .undef _
              refine (exec_wp hE ih n).1 c _ s e A _ w _ hex hok hl0 (fun A' act' w' hl => ?_)
              obtain ⟨vs, hres, hrep⟩ := results_spec hE hl.wok hl.fr has
              have post : bodyPost P fn (fun e w' => ∃ v, e = .returned v ∧ CallPost env (env.eff g) base A F w gs rs' m'.gs v w') .ret act' w' := by
                refine ⟨hl.defers, resV vs, hres, resV vs, rfl, ?_⟩
                have hW0 : WOK env A' (fun x => F x ∨ x ∈ ([] : List Nat)) w' s.m w.heap.size gs.n := by simpa using hl.wok
                obtain ⟨B, q1, q2, q3, q4, q5, q6, q7⟩ := gives_spec (env.eff g) heff as vs s.m m' [] rs' hW0 (by simpa using hrep) hg
                have e1 : (fun x => F x ∨ x ∈ B ∨ x ∈ ([] : List Nat)) = (fun x => F x ∨ x ∈ B) := by funext x; simp
                rw [e1] at q1 q3 q4
                obtain ⟨L', gs''⟩ := m'
                obtain ⟨p1, p2⟩ := q1.drop
                have hXX := (hl.ext.trans (q2 F)).drop hloc
                refine ⟨globsOf A', B, vs, rfl, fun _ _ => rfl, hXX, p1, fun b hb => (q5 b hb).1, q6, ?_, q7⟩
                cases heq : env.eff g with
                | true =>
                  rw [heq] at q7
                  exact GivenL.arg (A := A') (A' := globsOf A') p2 (fun _ _ _ h => h) q4 (by simpa using q7)
                | false =>
                  rw [heq] at q7
                  exact q4.fix p2 (by simpa using q7)
              rcases he with rfl | rfl
              · exact post
              · exact post
            cases r with
            | none => simp at h
            | some r =>
              obtain ⟨e, s⟩ := r
              cases e with
              | normal => exact fin .normal s (.inl rfl) rfl h
              | exit j => simp at h
              | ret => exact fin .ret s (.inr rfl) rfl h
          · cases h
end Go.Abs
