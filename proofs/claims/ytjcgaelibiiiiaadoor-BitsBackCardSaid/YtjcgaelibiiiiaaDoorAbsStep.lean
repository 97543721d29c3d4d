/-
  THE ABSTRACT INTERPRETER, memory: an object that turns; freezing; reading; writing. By this seat's session.
-/
import Derived.Test.YtjcgaelibiiiiaaDoorAbsMem
set_option linter.unusedVariables false
set_option linter.unusedSimpArgs false
namespace Go.Abs

theorem WOK.change {env : Env} {A : Gh} {F : Nat → Prop} {w : World} {m : Mem} {H0 N0 : Nat} (h : WOK env A F w m H0 N0) (base : Nat) (o : OId) (hold : ownedSt (m.obj o).st = true) (hmw : mayWrite base o = true) (A' : Gh) (x' : AObj) (w' : World)
    (hA' : (A' = A ∧ x'.gen = (m.obj o).gen) ∨ ∃ y, A' = A.upd o x'.gen y ∧ (m.obj o).gen < x'.gen)
    (hsize : w.heap.size ≤ w'.heap.size) (hos : w'.os = w.os ∧ w'.tape = w.tape ∧ w'.output = w.output)
    (hheap : ∀ b, b < w.heap.size → (∀ s t, A o (m.obj o).gen ≠ some (b, s, t)) → w'.heap[b]? = w.heap[b]?)
    (hblk : x'.st ≠ .dead → ∀ b s t, A' o x'.gen = some (b, s, t) → (∃ s' t', A o (m.obj o).gen = some (b, s', t')) ∨ w.heap.size ≤ b)
    (hok : Ext base F A m w A' (m.put o x') w' → ObjOK A' (Own A' (m.put o x') F) w' x' o) :
    WOK env A' F w' (m.put o x') H0 N0 ∧ Ext base F A m w A' (m.put o x') w' := by
  have hge : (m.obj o).gen ≤ x'.gen := by rcases hA' with ⟨_, e⟩ | ⟨_, _, e⟩ <;> omega
  have hle : A.Le A' := by
    rcases hA' with ⟨e, _⟩ | ⟨y, e, hlt⟩
    · rw [e]; exact .refl _
    · rw [e]; exact Gh.upd_le (h.gens o _ hlt)
  have hother : ∀ o' g', o' ≠ o → A' o' g' = A o' g' := by
    intro o' g' hne
    rcases hA' with ⟨e, _⟩ | ⟨y, e, hlt⟩
    · rw [e]
    · rw [e, Gh.upd_other hne]
  have hobj : ∀ o', (m.put o x').obj o' = if o' = o then x' else m.obj o' := fun o' => obj_put m o o' x'
  have hold' : ∀ b s t, A o (m.obj o).gen = some (b, s, t) → b < w.heap.size := fun b s t hA => A_lt h (owned_live hold) hA
  have hown : ∀ b, b < w.heap.size → Own A' (m.put o x') F b → Own A m F b := by
    rintro b hb (hF | ⟨o', s, t, h1, h2⟩)
    · exact .inl hF
    · rw [hobj] at h1 h2
      by_cases e : o' = o
      · subst e
        rw [if_pos rfl] at h1 h2
        rcases hblk (owned_live h1) _ _ _ h2 with ⟨s', t', h3⟩ | h3
        · exact .inr ⟨o', s', t', hold, h3⟩
        · omega
      · rw [if_neg e] at h1 h2
        rw [hother o' _ e] at h2
        exact .inr ⟨o', s, t, h1, h2⟩
  have hext : Ext base F A m w A' (m.put o x') w' := {
    le := hle, size := hsize, os := hos.1, tape := hos.2.1, output := hos.2.2, own := hown
    heap := fun b hb hnw => hheap b hb (fun s t hA => hnw ⟨o, s, t, hold, hmw, hA⟩)
    wr := by
      rintro b hb ⟨o', s, t, h1, hm, h2⟩
      rw [hobj] at h1 h2
      by_cases e : o' = o
      · subst e
        rw [if_pos rfl] at h1 h2
        rcases hblk (owned_live h1) _ _ _ h2 with ⟨s', t', h3⟩ | h3
        · exact ⟨o', s', t', hold, hmw, h3⟩
        · omega
      · rw [if_neg e] at h1 h2
        rw [hother o' _ e] at h2
        exact ⟨o', s, t, h1, hm, h2⟩
    keep := by
      intro o' b s t h1 h2 hb
      rw [hobj] at h1 h2
      by_cases e : o' = o
      · subst e
        rw [if_pos rfl] at h1 h2
        rcases hblk h1 _ _ _ h2 with ⟨s', t', h3⟩ | h3
        · exact ⟨s', t', owned_live hold, h3⟩
        · omega
      · rw [if_neg e] at h1 h2
        rw [hother o' _ e] at h2
        exact ⟨s, t, h1, h2⟩
    keepG := by
      intro k hk
      rw [hobj, if_neg]
      intro e
      rw [← e] at hmw
      simp [mayWrite] at hmw
      omega
    nle := by rw [put_n]; exact Nat.le_refl _ }
  refine ⟨?_, hext⟩
  have hX : ∀ b, b < w.heap.size → ¬ Own A m F b → w'.heap[b]? = w.heap[b]? := fun b hb hx => hext.heap b hb (fun e => hx e.own)
  refine { obj := fun o' => ?_, inj := ?_, sep := ?_, bound := fun b hb => Nat.lt_of_lt_of_le (h.bound b hb) hsize, gens := ?_, gn := ?_, fresh := ?_, nle := by rw [put_n]; exact h.nle, hle := Nat.le_trans h.hle hsize, glob := fun gl cs hg => (h.glob gl cs hg).ext hext }
  · rw [hobj]
    by_cases e : o' = o
    · subst e; rw [if_pos rfl]; exact hok hext
    · rw [if_neg e]
      have hob := h.obj o'
      unfold ObjOK at hob ⊢
      cases hs : (m.obj o').st with
      | dead => trivial
      | ro s es =>
        rw [hs] at hob
        obtain ⟨b, a', t, fr, h1, h2, h3, h4⟩ := hob
        have hb := (Array.getElem?_eq_some_iff.1 h2).1
        exact ⟨b, a', t, fr, by rw [hother _ _ e]; exact h1, by rw [hX b hb h4]; exact h2, h3.mono hle hX hown, fun k => h4 (hown b hb k)⟩
      | row s es =>
        rw [hs] at hob
        obtain ⟨b, a', t, h1, h2, h3⟩ := hob
        have hb := (Array.getElem?_eq_some_iff.1 h2).1
        have hne : ∀ s' t', A o (m.obj o).gen ≠ some (b, s', t') := fun s' t' k => e (h.inj o' o b _ _ _ _ (by rw [hs]; rfl) hold h1 k)
        exact ⟨b, a', t, by rw [hother _ _ e]; exact h1, by rw [hheap b hb hne]; exact h2, h3.mono hle hX hown⟩
      | box cs =>
        rw [hs] at hob
        obtain ⟨b, a', t, h1, h2, h3, h4⟩ := hob
        have hb := (Array.getElem?_eq_some_iff.1 h2).1
        have hne : ∀ s' t', A o (m.obj o).gen ≠ some (b, s', t') := fun s' t' k => e (h.inj o' o b _ _ _ _ (by rw [hs]; rfl) hold h1 k)
        exact ⟨b, a', t, by rw [hother _ _ e]; exact h1, by rw [hheap b hb hne]; exact h2, h3.ext hext, h4⟩
  · intro o1 o2 b s t s' t' h1 h2 h3 h4
    rw [hobj] at h1 h2 h3 h4
    by_cases e1 : o1 = o <;> by_cases e2 : o2 = o
    · rw [e1, e2]
    · exfalso
      subst e1
      rw [if_pos rfl] at h1 h3
      rw [if_neg e2] at h2 h4
      rw [hother _ _ e2] at h4
      rcases hblk (owned_live h1) _ _ _ h3 with ⟨s'', t'', h5⟩ | h5
      · exact e2 (h.inj o1 o2 b _ _ _ _ hold h2 h5 h4).symm
      · have := A_lt h (owned_live h2) h4; omega
    · exfalso
      subst e2
      rw [if_pos rfl] at h2 h4
      rw [if_neg e1] at h1 h3
      rw [hother _ _ e1] at h3
      rcases hblk (owned_live h2) _ _ _ h4 with ⟨s'', t'', h5⟩ | h5
      · exact e1 (h.inj o1 o2 b _ _ _ _ h1 hold h3 h5)
      · have := A_lt h (owned_live h1) h3; omega
    · rw [if_neg e1] at h1 h3
      rw [if_neg e2] at h2 h4
      rw [hother _ _ e1] at h3
      rw [hother _ _ e2] at h4
      exact h.inj o1 o2 b _ _ _ _ h1 h2 h3 h4
  · intro o' b s t h1 h2 hF
    rw [hobj] at h1 h2
    by_cases e1 : o' = o
    · subst e1
      rw [if_pos rfl] at h1 h2
      rcases hblk (owned_live h1) _ _ _ h2 with ⟨s'', t'', h5⟩ | h5
      · exact h.sep o' b _ _ hold h5 hF
      · have := h.bound b hF; omega
    · rw [if_neg e1] at h1 h2
      rw [hother _ _ e1] at h2
      exact h.sep o' b s t h1 h2 hF
  · intro o' g' hg
    rw [hobj] at hg
    by_cases e1 : o' = o
    · subst e1
      rw [if_pos rfl] at hg
      have hn := h.gens o' g' (by omega)
      rcases hA' with ⟨e, _⟩ | ⟨y, e, hlt⟩
      · rw [e]; exact hn
      · rw [e]; unfold Gh.upd; rw [if_neg (by intro k; omega)]; exact hn
    · rw [if_neg e1] at hg
      rw [hother _ _ e1]
      exact h.gens o' g' hg
  · intro k hk
    rw [put_n] at hk
    have hd := h.gn k hk
    have hne : OId.glob k ≠ o := by intro e; rw [← e, hd.1] at hold; simp [ownedSt] at hold
    rw [hobj, if_neg hne]
    exact ⟨hd.1, fun g' => by rw [hother _ _ hne]; exact hd.2 g'⟩
  · intro o' hkind b s t hl hA
    rw [hobj] at hl hA
    by_cases e1 : o' = o
    · subst e1
      rw [if_pos rfl] at hl hA
      rcases hblk hl _ _ _ hA with ⟨s'', t'', h5⟩ | h5
      · exact h.fresh o' hkind b _ _ (owned_live hold) h5
      · exact Nat.le_trans h.hle h5
    · rw [if_neg e1] at hl hA
      rw [hother _ _ e1] at hA
      exact h.fresh o' hkind b s t hl hA

/-- A block of an owned object is nobody else's. -/
theorem WOK.alone {env : Env} {A : Gh} {F : Nat → Prop} {w : World} {m : Mem} {H0 N0 : Nat} (h : WOK env A F w m H0 N0) {o : OId} (hold : ownedSt (m.obj o).st = true) {b s t : Nat} (hA : A o (m.obj o).gen = some (b, s, t)) (x' : AObj) (hx : ownedSt x'.st = false) : ¬ Own A (m.put o x') F b := by
  rintro (hF | ⟨o', s', t', h1, h2⟩)
  · exact h.sep o b s t hold hA hF
  · rw [obj_put] at h1 h2
    by_cases e : o' = o
    · subst e; rw [if_pos rfl, hx] at h1; cases h1
    · rw [if_neg e] at h1 h2
      exact e (h.inj o' o b _ _ _ _ h1 hold h2 hA)
theorem Rep.shrink {A : Gh} {X X' : Nat → Prop} {w : World} (hX : ∀ b, X' b → X b) {v : Value} {a : AVal} (h : Rep A X w v a) : Rep A X' w v a :=
  h.mono (.refl _) (fun _ _ _ => rfl) (fun b _ => hX b)

/-- A row of one's own becomes one that is only read, or goes. -/
theorem WOK.giveUp {env : Env} {A : Gh} {F : Nat → Prop} {w : World} {m : Mem} {H0 N0 : Nat} (h : WOK env A F w m H0 N0) (base : Nat) (o : OId) {sz : Nat} {es : List (List AVal)} (hst : (m.obj o).st = .row sz es) (hmw : mayWrite base o = true) (st' : OSt) (hs : st' = .ro sz es ∨ st' = .dead) :
    WOK env A F w (m.put o ⟨(m.obj o).gen, st'⟩) H0 N0 ∧ Ext base F A m w A (m.put o ⟨(m.obj o).gen, st'⟩) w := by
  have hold : ownedSt (m.obj o).st = true := by rw [hst]; rfl
  refine h.change base o hold hmw A _ w (.inl ⟨rfl, rfl⟩) (Nat.le_refl _) ⟨rfl, rfl, rfl⟩ (fun _ _ _ => rfl) (fun _ b s t hA => .inl ⟨s, t, hA⟩) (fun hext => ?_)
  rcases hs with rfl | rfl
  · have hob := h.obj o
    unfold ObjOK at hob ⊢
    rw [hst] at hob
    obtain ⟨b, arr, t, h1, h2, h3⟩ := hob
    exact ⟨b, arr, t, (0, 0), h1, h2, h3.mono hext.le (fun b hb hx => rfl) hext.own, h.alone hold h1 _ rfl⟩
  · trivial

theorem add_cells (b k j : Nat) : (⟨b, k, none⟩ : Addr).add j = ⟨b, k + j, none⟩ := by unfold Addr.add; split <;> simp_all
/-- A part of a row, as a slice that is only read. -/
theorem RowRep.slice {A : Gh} {X : Nat → Prop} {w : World} {arr : Array Value} {sz : Nat} {es : List (List AVal)} (h : RowRep A X w arr sz es) {b : Nat} {t : TypeId} {fr : Nat × Nat} (hb : w.heap[b]? = some (.cells arr t fr)) (hX : ¬ X b)
    {lo n c : Nat} (hn : lo + n ≤ es.length) (hc : n ≤ c) : Rep A X w (.slice (some ⟨b, lo * sz, none⟩) n c) (.sl ((es.drop lo).take n)) := by
  have hlen : ((es.drop lo).take n).length = n := by simp; omega
  refine .sl ⟨b, lo * sz, none⟩ n c sz _ (fun i j => arr.getD ((lo + i) * sz + j) undef) h.1 hlen.symm hc ?_ ?_ ?_
  · intro e he
    exact h.2.2.1 e (List.mem_of_mem_drop (List.mem_of_mem_take he))
  · intro i e j x he hx
    have he' : es[lo + i]? = some e := by
      rw [List.getElem?_take] at he
      split at he
      · rwa [List.getElem?_drop] at he
      · cases he
    obtain ⟨hfx, u, hu, hr⟩ := h.2.2.2 (lo + i) e j x he' hx
    refine ⟨hfx, hX, ?_⟩
    rw [add_cells, cell_of_row w b _ arr t fr hb, show lo * sz + (i * sz + j) = (lo + i) * sz + j by rw [Nat.add_mul]; omega, hu]
    simp [hu]
  · intro i e j x he hx
    have he' : es[lo + i]? = some e := by
      rw [List.getElem?_take] at he
      split at he
      · rwa [List.getElem?_drop] at he
      · cases he
    obtain ⟨_, u, hu, hr⟩ := h.2.2.2 (lo + i) e j x he' hx
    simpa [hu] using hr

theorem frz_spec {env : Env} {A : Gh} {F : Nat → Prop} {w : World} {m : Mem} {H0 N0 : Nat} (h : WOK env A F w m H0 N0) (base : Nat) {v : Value} {a a' : AVal} {m1 : Option Mem} (hr : Rep A (Own A m F) w v a) (hf : frz base m a = some (a', m1)) :
    WOK env A F w (m1.getD m) H0 N0 ∧ Ext base F A m w A (m1.getD m) w ∧ Rep A (Own A (m1.getD m) F) w v a' ∧ a'.fixed = true := by
  have triv : ∀ (a : AVal), a.fixed = true → Rep A (Own A m F) w v a → some (a, (none : Option Mem)) = some (a', m1) → WOK env A F w (m1.getD m) H0 N0 ∧ Ext base F A m w A (m1.getD m) w ∧ Rep A (Own A (m1.getD m) F) w v a' ∧ a'.fixed = true := by
    intro a hfx hr e
    simp only [Option.some.injEq, Prod.mk.injEq] at e
    obtain ⟨rfl, rfl⟩ := e
    exact ⟨h, .refl .., hr, hfx⟩
  unfold frz at hf
  split at hf
  · cases hr with
    | e0 ad => exact triv (.sl []) rfl (.nil ad 0) hf
  · rename_i o g lo n
    cases hr with
    | hs _ _ _ _ c b sz tot hA hc ht =>
      simp only at hf
      split at hf
      · rename_i hg
        have hob := h.obj o
        unfold ObjOK at hob
        split at hf
        · rename_i es hst
          rw [hst] at hob
          obtain ⟨b', arr, t, fr, h1, h2, h3, h4⟩ := hob
          rw [hg] at h1
          rw [hA] at h1
          simp only [Option.some.injEq, Prod.mk.injEq] at h1
          obtain ⟨rfl, rfl, rfl⟩ := h1
          split at hf
          · rename_i hle
            exact triv _ rfl (h3.slice h2 h4 hle hc) hf
          · cases hf
        · rename_i sz' es hst
          split at hf
          · rename_i hle
            simp only [Bool.and_eq_true, decide_eq_true_eq] at hle
            simp only [Option.some.injEq, Prod.mk.injEq] at hf
            obtain ⟨rfl, rfl⟩ := hf
            have hgu := h.giveUp base o hst hle.2 (.ro sz' es) (.inl rfl)
            rw [hg] at hgu
            refine ⟨hgu.1, hgu.2, ?_, rfl⟩
            have hob' := hgu.1.obj o
            unfold ObjOK at hob'
            rw [obj_put, if_pos rfl] at hob'
            obtain ⟨b', arr, t, fr, h1, h2, h3, h4⟩ := hob'
            rw [hA] at h1
            simp only [Option.some.injEq, Prod.mk.injEq] at h1
            obtain ⟨rfl, rfl, rfl⟩ := h1
            exact h3.slice h2 h4 hle.1 hc
          · cases hf
        · cases hf
      · cases hf
  · split at hf
    · rename_i hfx
      exact triv _ hfx hr hf
    · cases hf

theorem orM_getD (m : Mem) (a b : Option Mem) : (orM a b).getD m = b.getD (a.getD m) := by cases b <;> cases a <;> rfl

theorem frzL_spec {env : Env} {A : Gh} {F : Nat → Prop} {w : World} {H0 N0 : Nat} (base : Nat) : ∀ (vs : List Value) (cs cs' : List AVal) (m : Mem) (m1 : Option Mem), WOK env A F w m H0 N0 → RepL A (Own A m F) w vs cs → frzL base m cs = some (cs', m1) →
    WOK env A F w (m1.getD m) H0 N0 ∧ Ext base F A m w A (m1.getD m) w ∧ RepL A (Own A (m1.getD m) F) w vs cs' ∧ cs'.all AVal.fixed = true := by
  intro vs
  induction vs with
  | nil =>
    intro cs cs' m m1 h hr hf
    have : cs = [] := List.eq_nil_of_length_eq_zero (by simpa using hr.1.symm)
    subst this
    simp only [frzL, Option.some.injEq, Prod.mk.injEq] at hf
    obtain ⟨rfl, rfl⟩ := hf
    exact ⟨h, .refl .., .nil, rfl⟩
  | cons v vs ih =>
    intro cs cs' m m1 h hr hf
    cases cs with
    | nil => have := hr.1; simp at this
    | cons a cs =>
      simp only [frzL] at hf
      split at hf
      · cases hf
      · rename_i b m2 hb
        split at hf
        · cases hf
        · rename_i bs m3 hbs
          simp only [Option.some.injEq, Prod.mk.injEq] at hf
          obtain ⟨rfl, rfl⟩ := hf
          rw [orM_getD]
          obtain ⟨h1, h2, h3, h4⟩ := frz_spec h base hr.head hb
          obtain ⟨k1, k2, k3, k4⟩ := ih cs bs _ m3 h1 (hr.tail.ext h2) hbs
          exact ⟨k1, h2.trans k2, .cons (h3.ext k2) k3, by simp [h4, k4]⟩

theorem pass_spec {env : Env} {A : Gh} {F : Nat → Prop} {w : World} {m : Mem} {H0 N0 : Nat} (h : WOK env A F w m H0 N0) (base : Nat) {v : Value} {a a' : AVal} {m1 : Option Mem} (hr : Rep A (Own A m F) w v a) (hf : pass base m a = some (a', m1)) :
    WOK env A F w (m1.getD m) H0 N0 ∧ Ext base F A m w A (m1.getD m) w ∧ Rep A (Own A (m1.getD m) F) w v a' ∧ a'.shared = true := by
  unfold pass at hf
  split at hf
  · simp only [Option.some.injEq, Prod.mk.injEq] at hf
    obtain ⟨rfl, rfl⟩ := hf
    cases hr with
    | e0 ad => exact ⟨h, .refl .., .nil ad 0, rfl⟩
  · obtain ⟨h1, h2, h3, h4⟩ := frz_spec h base hr hf
    refine ⟨h1, h2, h3, ?_⟩
    cases a' <;> simp_all [AVal.fixed, AVal.shared]
    split at h4 <;> simp_all
  · split at hf
    · rename_i hs
      simp only [Option.some.injEq, Prod.mk.injEq] at hf
      obtain ⟨rfl, rfl⟩ := hf
      exact ⟨h, .refl .., hr, hs⟩
    · cases hf
theorem passL_spec {env : Env} {A : Gh} {F : Nat → Prop} {w : World} {H0 N0 : Nat} (base : Nat) : ∀ (vs : List Value) (cs cs' : List AVal) (m : Mem) (m1 : Option Mem), WOK env A F w m H0 N0 → RepL A (Own A m F) w vs cs → passL base m cs = some (cs', m1) →
    WOK env A F w (m1.getD m) H0 N0 ∧ Ext base F A m w A (m1.getD m) w ∧ RepL A (Own A (m1.getD m) F) w vs cs' ∧ cs'.all AVal.shared = true := by
  intro vs
  induction vs with
  | nil =>
    intro cs cs' m m1 h hr hf
    have : cs = [] := List.eq_nil_of_length_eq_zero (by simpa using hr.1.symm)
    subst this
    simp only [passL, Option.some.injEq, Prod.mk.injEq] at hf
    obtain ⟨rfl, rfl⟩ := hf
    exact ⟨h, .refl .., .nil, rfl⟩
  | cons v vs ih =>
    intro cs cs' m m1 h hr hf
    cases cs with
    | nil => have := hr.1; simp at this
    | cons a cs =>
      simp only [passL] at hf
      split at hf
      · cases hf
      · rename_i b m2 hb
        split at hf
        · cases hf
        · rename_i bs m3 hbs
          simp only [Option.some.injEq, Prod.mk.injEq] at hf
          obtain ⟨rfl, rfl⟩ := hf
          rw [orM_getD]
          obtain ⟨h1, h2, h3, h4⟩ := pass_spec h base hr.head hb
          obtain ⟨k1, k2, k3, k4⟩ := ih cs bs _ m3 h1 (hr.tail.ext h2) hbs
          exact ⟨k1, h2.trans k2, .cons (h3.ext k2) k3, by simp [h4, k4]⟩
def argOK : AVal → Bool
  | .agg cs => cs.all AVal.shared
  | a => a.shared
theorem passV_spec {env : Env} {A : Gh} {F : Nat → Prop} {w : World} {m : Mem} {H0 N0 : Nat} (h : WOK env A F w m H0 N0) (base : Nat) {v : Value} {a a' : AVal} {m1 : Option Mem} (hr : Rep A (Own A m F) w v a) (hf : passV base m a = some (a', m1)) :
    WOK env A F w (m1.getD m) H0 N0 ∧ Ext base F A m w A (m1.getD m) w ∧ Rep A (Own A (m1.getD m) F) w v a' ∧ argOK a' = true := by
  unfold passV at hf
  split at hf
  · simp only [Option.map_eq_some_iff, Prod.mk.injEq, Prod.exists] at hf
    obtain ⟨cs', m2, hf, rfl, rfl⟩ := hf
    cases hr with
    | agg vs cs hs hr =>
      obtain ⟨h1, h2, h3, h4⟩ := passL_spec base vs.toList _ _ _ _ h ⟨by simpa using hs, fun j x hx => by simpa using hr j x hx⟩ hf
      exact ⟨h1, h2, .agg vs cs' (by simpa using h3.1) (fun j x hx => by simpa using h3.2 j x hx), h4⟩
  · rename_i hne
    obtain ⟨h1, h2, h3, h4⟩ := pass_spec h base hr hf
    refine ⟨h1, h2, h3, ?_⟩
    cases a' <;> first | exact h4 | (simp [AVal.shared] at h4; done)
theorem passVs_spec {env : Env} {A : Gh} {F : Nat → Prop} {w : World} {H0 N0 : Nat} (base : Nat) : ∀ (vs : List Value) (cs cs' : List AVal) (m : Mem) (m1 : Option Mem), WOK env A F w m H0 N0 → RepL A (Own A m F) w vs cs → passVs base m cs = some (cs', m1) →
    WOK env A F w (m1.getD m) H0 N0 ∧ Ext base F A m w A (m1.getD m) w ∧ RepL A (Own A (m1.getD m) F) w vs cs' ∧ cs'.all argOK = true := by
  intro vs
  induction vs with
  | nil =>
    intro cs cs' m m1 h hr hf
    have : cs = [] := List.eq_nil_of_length_eq_zero (by simpa using hr.1.symm)
    subst this
    simp only [passVs, Option.some.injEq, Prod.mk.injEq] at hf
    obtain ⟨rfl, rfl⟩ := hf
    exact ⟨h, .refl .., .nil, rfl⟩
  | cons v vs ih =>
    intro cs cs' m m1 h hr hf
    cases cs with
    | nil => have := hr.1; simp at this
    | cons a cs =>
      simp only [passVs] at hf
      split at hf
      · cases hf
      · rename_i b m2 hb
        split at hf
        · cases hf
        · rename_i bs m3 hbs
          simp only [Option.some.injEq, Prod.mk.injEq] at hf
          obtain ⟨rfl, rfl⟩ := hf
          rw [orM_getD]
          obtain ⟨h1, h2, h3, h4⟩ := passV_spec h base hr.head hb
          obtain ⟨k1, k2, k3, k4⟩ := ih cs bs _ m3 h1 (hr.tail.ext h2) hbs
          exact ⟨k1, h2.trans k2, .cons (h3.ext k2) k3, by simp [h4, k4]⟩
end Go.Abs
