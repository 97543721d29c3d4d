/-
  THE ABSTRACT INTERPRETER: calls: what is handed in and over. By this seat's session.
-/
import Derived.Test.YtjcgaelibiiiiaaDoorAbsOpG
import Derived.Orders
set_option linter.unusedVariables false
set_option linter.unusedSimpArgs false
namespace Go.Abs

theorem Rep.shared_any {A A' : Gh} {X : Nat → Prop} {w : World} {v : Value} {a : AVal} (h : Rep A X w v a) (hs : a.shared = true) (hA : ∀ k g x, A (.glob k) g = some x → A' (.glob k) g = some x) : Rep A' X w v a := by
  have one : ∀ {u : Value} {x : AVal}, Rep A X w u x → AVal.shared.sharedOne x = true → Rep A' X w u x := by
    intro u x hx hsx
    cases hx with
    | raw => exact .raw _
    | e0 a => simp [AVal.shared.sharedOne] at hsx
    | nil a c => exact .nil a c
    | sl ad n c sz es f h0 hn hc hl hm hr => exact Rep.fixed_any (.sl ad n c sz es f h0 hn hc hl hm hr) rfl
    | hs o g lo n c b sz tot h hc ht =>
      cases o with
      | loc k => simp [AVal.shared.sharedOne] at hsx
      | glob k => exact .hs _ g lo n c b sz tot (hA _ _ _ h) hc ht
    | hp o g i off b sz tot h =>
      cases o with
      | loc k => simp [AVal.shared.sharedOne] at hsx
      | glob k => exact .hp _ g i off b sz tot (hA _ _ _ h)
    | ip ad cs f hm hr => exact Rep.fixed_any (.ip ad cs f hm hr) rfl
    | clo _ _ _ _ _ _ _ _ _ => simp [AVal.shared.sharedOne] at hsx
    | iface _ _ _ _ => simp [AVal.shared.sharedOne] at hsx
    | agg _ _ _ _ => simp [AVal.shared.sharedOne] at hsx
    | tup _ _ _ _ => simp [AVal.shared.sharedOne] at hsx
    | undef _ => simp [AVal.shared.sharedOne] at hsx
  cases h with
  | raw v => exact .raw v
  | e0 a => exact .e0 a
  | nil a c => exact .nil a c
  | sl ad n c sz es f h0 hn hc hl hm hr => exact Rep.fixed_any (.sl ad n c sz es f h0 hn hc hl hm hr) rfl
  | hs o g lo n c b sz tot h hc ht =>
    cases o with
    | loc k => simp [AVal.shared] at hs
    | glob k => exact .hs _ g lo n c b sz tot (hA _ _ _ h) hc ht
  | hp o g i off b sz tot h =>
    cases o with
    | loc k => simp [AVal.shared] at hs
    | glob k => exact .hp _ g i off b sz tot (hA _ _ _ h)
  | ip ad cs f hm hr => exact Rep.fixed_any (.ip ad cs f hm hr) rfl
  | clo g fs cs first caps h1 h2 r1 r2 =>
    simp only [AVal.shared, Bool.and_eq_true] at hs
    exact .clo g fs cs first caps h1 h2 (fun j x hx => one (r1 j x hx) (all_get hs.1 hx)) (fun j x hx => one (r2 j x hx) (all_get hs.2 hx))
  | iface t v a h =>
    refine .iface t v a ?_
    cases h with
    | raw v => exact .raw v
    | nil a c => exact .nil a c
    | sl ad n c sz es f h0 hn hc hl hm hr => exact Rep.fixed_any (.sl ad n c sz es f h0 hn hc hl hm hr) rfl
    | hp o g i off b sz tot h =>
      cases o with
      | loc k => simp [AVal.shared] at hs
      | glob k => exact .hp _ g i off b sz tot (hA _ _ _ h)
    | _ => simp [AVal.shared] at hs
  | agg _ _ _ _ => simp [AVal.shared] at hs
  | tup _ _ _ _ => simp [AVal.shared] at hs
  | undef _ => simp [AVal.shared] at hs
theorem Rep.arg_any {A A' : Gh} {X : Nat → Prop} {w : World} {v : Value} {a : AVal} (h : Rep A X w v a) (hs : argOK a = true) (hA : ∀ k g x, A (.glob k) g = some x → A' (.glob k) g = some x) : Rep A' X w v a := by
  by_cases hag : ∃ cs, a = .agg cs
  · obtain ⟨cs, rfl⟩ := hag
    obtain ⟨vs, rfl, h1, h2⟩ := h.agg_inv
    exact .agg vs cs h1 (fun j x hx => (h2 j x hx).shared_any (all_get hs hx) hA)
  · exact h.shared_any (by cases a <;> first | exact hs | exact absurd ⟨_, rfl⟩ hag) hA
def aggFix : AVal → Bool
  | .agg cs => cs.all AVal.fixed
  | a => a.fixed
theorem Rep.aggFix_any {A A' : Gh} {X : Nat → Prop} {w : World} {v : Value} {a : AVal} (h : Rep A X w v a) (hs : aggFix a = true) : Rep A' X w v a := by
  by_cases hag : ∃ cs, a = .agg cs
  · obtain ⟨cs, rfl⟩ := hag
    obtain ⟨vs, rfl, h1, h2⟩ := h.agg_inv
    exact .agg vs cs h1 (fun j x hx => (h2 j x hx).fixed_any (all_get hs hx))
  · exact h.fixed_any (by cases a <;> first | exact hs | exact absurd ⟨_, rfl⟩ hag)
theorem RowRep.any {A A' : Gh} {X : Nat → Prop} {w : World} {arr : Array Value} {sz : Nat} {es : List (List AVal)} (h : RowRep A X w arr sz es) : RowRep A' X w arr sz es :=
  ⟨h.1, h.2.1, h.2.2.1, fun i e j x h1 h2 => by obtain ⟨hf, u, hu, hr⟩ := h.2.2.2 i e j x h1 h2; exact ⟨hf, u, hu, hr.fixed_any hf⟩⟩
theorem RowRep.sub {A : Gh} {X X' : Nat → Prop} {w : World} {arr : Array Value} {sz : Nat} {es : List (List AVal)} (hX : ∀ b, X' b → X b) (h : RowRep A X w arr sz es) : RowRep A X' w arr sz es :=
  h.mono (.refl _) (fun _ _ _ => rfl) (fun b _ => hX b)

def noL : Tbl AObj := ⟨[]⟩
def globsOf (A : Gh) : Gh := fun o g => match o with
  | .loc _ => none
  | .glob k => A (.glob k) g
def locOwned (A : Gh) (m : Mem) (b : Nat) : Prop := ∃ k sz tot, ownedSt (m.obj (.loc k)).st = true ∧ A (.loc k) (m.obj (.loc k)).gen = some (b, sz, tot)
theorem obj_noL (gs : GS) (k : Nat) : (Mem.obj ⟨noL, gs⟩ (.loc k)) = AObj.none := by simp [Mem.obj, noL, Tbl.get_nil]
theorem obj_globL (L : Tbl AObj) (gs : GS) (k : Nat) : (Mem.obj ⟨L, gs⟩ (.glob k)) = (Mem.obj ⟨noL, gs⟩ (.glob k)) := rfl
theorem own_split {A : Gh} {L : Tbl AObj} {gs : GS} {F : Nat → Prop} (b : Nat) : Own A ⟨L, gs⟩ F b ↔ Own (globsOf A) ⟨noL, gs⟩ (fun b => F b ∨ locOwned A ⟨L, gs⟩ b) b := by
  constructor
  · rintro (h | ⟨o, s, t, h1, h2⟩)
    · exact .inl (.inl h)
    · cases o with
      | loc k => exact .inl (.inr ⟨k, s, t, h1, h2⟩)
      | glob k => exact .inr ⟨.glob k, s, t, h1, h2⟩
  · rintro ((h | ⟨k, s, t, h1, h2⟩) | ⟨o, s, t, h1, h2⟩)
    · exact .inl h
    · exact .inr ⟨.loc k, s, t, h1, h2⟩
    · cases o with
      | loc k => rw [obj_noL] at h1; simp [AObj.none, ownedSt] at h1
      | glob k => exact .inr ⟨.glob k, s, t, h1, h2⟩

/-- The memory as a callee has it. -/
theorem WOK.enter {env : Env} {A : Gh} {F : Nat → Prop} {w : World} {L : Tbl AObj} {gs : GS} {H0 N0 : Nat} (h : WOK env A F w ⟨L, gs⟩ H0 N0) : WOK env (globsOf A) (fun b => F b ∨ locOwned A ⟨L, gs⟩ b) w ⟨noL, gs⟩ w.heap.size gs.n := by
  have hX : ∀ b, Own (globsOf A) ⟨noL, gs⟩ (fun b => F b ∨ locOwned A ⟨L, gs⟩ b) b → Own A ⟨L, gs⟩ F b := fun b hb => (own_split b).2 hb
  have hg : ∀ k g x, A (.glob k) g = some x → globsOf A (.glob k) g = some x := fun _ _ _ h => h
  refine { obj := fun o => ?_, inj := ?_, sep := ?_, bound := ?_, gens := ?_, gn := fun k hk => ⟨(h.gn k hk).1, fun g => (h.gn k hk).2 g⟩, fresh := ?_, nle := Nat.le_refl _, hle := Nat.le_refl _, glob := fun g cs hgl => ((h.glob g cs hgl).fixed_any rfl).shrink hX }
  · cases o with
    | loc k => rw [obj_noL]; trivial
    | glob k =>
      have hob := h.obj (.glob k)
      rw [obj_globL] at hob
      unfold ObjOK at hob ⊢
      cases hs : (Mem.obj ⟨noL, gs⟩ (.glob k)).st with
      | dead => trivial
      | ro s es =>
        rw [hs] at hob
        obtain ⟨b, a', t, fr, h1, h2, h3, h4⟩ := hob
        exact ⟨b, a', t, fr, h1, h2, h3.any.sub hX, fun e => h4 (hX b e)⟩
      | row s es =>
        rw [hs] at hob
        obtain ⟨b, a', t, h1, h2, h3⟩ := hob
        exact ⟨b, a', t, h1, h2, h3.any.sub hX⟩
      | box cs =>
        rw [hs] at hob
        obtain ⟨b, a', t, h1, h2, h3, h4, h5⟩ := hob
        exact ⟨b, a', t, h1, h2, ⟨h3.1, fun j x hx => ((h3.2 j x hx).shared_any (all_get (h5 k rfl) hx) hg).shrink hX⟩, h4, h5⟩
  · intro o o' b s t s' t' h1 h2 h3 h4
    cases o with
    | loc k => rw [obj_noL] at h1; simp [AObj.none, ownedSt] at h1
    | glob k => cases o' with
      | loc k' => rw [obj_noL] at h2; simp [AObj.none, ownedSt] at h2
      | glob k' => exact h.inj (.glob k) (.glob k') b s t s' t' h1 h2 h3 h4
  · rintro o b s t h1 h2 (hF | ⟨k', s', t', h3, h4⟩)
    · cases o with
      | loc k => rw [obj_noL] at h1; simp [AObj.none, ownedSt] at h1
      | glob k => exact h.sep (.glob k) b s t h1 h2 hF
    · cases o with
      | loc k => rw [obj_noL] at h1; simp [AObj.none, ownedSt] at h1
      | glob k =>
        have := h.inj (.glob k) (.loc k') b s t s' t' h1 h3 h2 h4
        cases this
  · rintro b (hF | ⟨k', s', t', h3, h4⟩)
    · exact h.bound b hF
    · exact A_lt h (owned_live h3) h4
  · intro o g hg'
    cases o with
    | loc k => rfl
    | glob k => exact h.gens (.glob k) g hg'
  · intro o hk b s t hl hA
    cases o with
    | loc k => rw [obj_noL] at hl; exact absurd rfl hl
    | glob k =>
      rcases hk with ⟨k', e⟩ | ⟨k', e, hle⟩
      · cases e
      · cases e
        exact absurd (h.gn k hle).1 hl

/-- What a call hands over, and in which blocks its rows lie. -/
inductive GivenL (A : Gh) (X : Nat → Prop) (w : World) : List Value → List RV → List Nat → Prop where
  | nil : GivenL A X w [] [] []
  | v (v : Value) (a : AVal) (vs : List Value) (rs : List RV) (B : List Nat) (h : Rep A X w v a) (t : GivenL A X w vs rs B) : GivenL A X w (v :: vs) (.v a :: rs) B
  | row (b c sz : Nat) (es : List (List AVal)) (arr : Array Value) (ty : TypeId) (vs : List Value) (rs : List RV) (B : List Nat) (hc : es.length ≤ c) (hb : w.heap[b]? = some (.cells arr ty (0, 0))) (hs : c * sz ≤ arr.size) (h : RowRep A X w arr sz es)
      (t : GivenL A X w vs rs B) : GivenL A X w (.slice (some ⟨b, 0, none⟩) es.length c :: vs) (.row sz es :: rs) (b :: B)
theorem GivenL.mono {A A' : Gh} {X X' : Nat → Prop} {w : World} (hA : A.Le A') (hX : ∀ b, X' b → X b) {vs : List Value} {rs : List RV} {B : List Nat} (h : GivenL A X w vs rs B) : GivenL A' X' w vs rs B := by
  induction h with
  | nil => exact .nil
  | v v a vs rs B h t ih => exact .v v a vs rs B (h.mono hA (fun _ _ _ => rfl) (fun b _ => hX b)) ih
  | row b c sz es arr ty vs rs B hc hb hs h t ih => exact .row b c sz es arr ty vs rs B hc hb hs (h.mono hA (fun _ _ _ => rfl) (fun b _ => hX b)) ih
def rvFix : RV → Bool
  | .v a => aggFix a
  | .row _ _ => true
def rvArg : RV → Bool
  | .v a => argOK a
  | .row _ _ => true
theorem GivenL.fix {A A' : Gh} {X X' : Nat → Prop} {w : World} (hX : ∀ b, X' b → X b) {vs : List Value} {rs : List RV} {B : List Nat} (h : GivenL A X w vs rs B) (hf : rs.all rvFix = true) : GivenL A' X' w vs rs B := by
  induction h with
  | nil => exact .nil
  | v v a vs rs B h t ih =>
    simp only [List.all_cons, Bool.and_eq_true] at hf
    exact .v v a vs rs B ((h.aggFix_any hf.1).shrink hX) (ih hf.2)
  | row b c sz es arr ty vs rs B hc hb hs h t ih =>
    simp only [List.all_cons, Bool.and_eq_true] at hf
    exact .row b c sz es arr ty vs rs B hc hb hs (h.any.sub hX) (ih hf.2)
theorem GivenL.arg {A A' : Gh} {X X' : Nat → Prop} {w : World} (hX : ∀ b, X' b → X b) (hA : ∀ k g x, A (.glob k) g = some x → A' (.glob k) g = some x) {vs : List Value} {rs : List RV} {B : List Nat} (h : GivenL A X w vs rs B) (hf : rs.all rvArg = true) : GivenL A' X' w vs rs B := by
  induction h with
  | nil => exact .nil
  | v v a vs rs B h t ih =>
    simp only [List.all_cons, Bool.and_eq_true] at hf
    exact .v v a vs rs B ((h.arg_any hf.1 hA).shrink hX) (ih hf.2)
  | row b c sz es arr ty vs rs B hc hb hs h t ih =>
    simp only [List.all_cons, Bool.and_eq_true] at hf
    exact .row b c sz es arr ty vs rs B hc hb hs (h.any.sub hX) (ih hf.2)

def resV : List Value → Value
  | [v] => v
  | vs => .tuple vs.toArray
def CallPost (env : Env) (eff : Bool) (base : Nat) (A : Gh) (F : Nat → Prop) (w : World) (gs : GS) (rs : List RV) (gs' : GS) (v : Value) (w' : World) : Prop :=
  ∃ A' B vs, v = resV vs ∧ (∀ k g, A' (.loc k) g = none) ∧ Ext base F A ⟨noL, gs⟩ w A' ⟨noL, gs'⟩ w' ∧ WOK env A' (fun b => F b ∨ b ∈ B) w' ⟨noL, gs'⟩ w.heap.size gs.n ∧ (∀ b ∈ B, w.heap.size ≤ b) ∧ B.Nodup ∧
    GivenL A' (Own A' ⟨noL, gs'⟩ (fun b => F b ∨ b ∈ B)) w' vs rs B ∧ (if eff then rs.all rvArg else rs.all rvFix) = true
def Sound (P : Program) (env : Env) (C : CallF) : Prop :=
  ∀ g args base gs rs gs', C g args base gs = some (rs, gs') → args.all argOK = true → base ≤ gs.n → (env.eff g = false → base = gs.n) →
    (∃ fn, env.funcs g = some fn ∧ fn.body.isSome = true) ∧
    ∀ A F w vargs, (∀ k g, A (.loc k) g = none) → WOK env A F w ⟨noL, gs⟩ w.heap.size gs.n → RepL A (Own A ⟨noL, gs⟩ F) w vargs args →
      Calls P g vargs.toArray w fun e w' => ∃ v, e = .returned v ∧ CallPost env (env.eff g) base A F w gs rs gs' v w'

/-- Back from a call that writes nothing of its callers'. -/
theorem merge_ro {env : Env} {A A' : Gh} {F : Nat → Prop} {w w' : World} {L : Tbl AObj} {gs gs' : GS} {H0 N0 base : Nat} {B : List Nat} (h : WOK env A F w ⟨L, gs⟩ H0 N0)
    (hX : Ext gs.n (fun b => F b ∨ locOwned A ⟨L, gs⟩ b) (globsOf A) ⟨noL, gs⟩ w A' ⟨noL, gs'⟩ w') (hW : WOK env A' (fun b => (F b ∨ locOwned A ⟨L, gs⟩ b) ∨ b ∈ B) w' ⟨noL, gs'⟩ w.heap.size gs.n) (hB : ∀ b ∈ B, w.heap.size ≤ b) (hBs : ∀ b ∈ B, b < w'.heap.size) :
    WOK env A (fun b => F b ∨ b ∈ B) w' ⟨L, gs⟩ H0 N0 ∧ Ext base F A ⟨L, gs⟩ w A ⟨L, gs⟩ w' ∧ (∀ b, Own A ⟨L, gs⟩ (fun b => F b ∨ b ∈ B) b → Own A' ⟨noL, gs'⟩ (fun b => (F b ∨ locOwned A ⟨L, gs⟩ b) ∨ b ∈ B) b) := by
  have hheap : ∀ b, b < w.heap.size → w'.heap[b]? = w.heap[b]? := by
    intro b hb
    refine hX.heap b hb ?_
    rintro ⟨o, s, t, h1, h2, h3⟩
    cases o with
    | loc k => rw [obj_noL] at h1; simp [AObj.none, ownedSt] at h1
    | glob k =>
      simp only [mayWrite, decide_eq_true_eq] at h2
      have := (h.gn k h2).1
      rw [obj_globL] at this
      rw [this] at h1
      simp [ownedSt] at h1
  obtain ⟨hW1, hX1⟩ := h.world base hX.size hheap ⟨hX.os, hX.tape, hX.output⟩
  have own_lt : ∀ o b s t, ownedSt (Mem.obj ⟨L, gs⟩ o).st = true → A o (Mem.obj ⟨L, gs⟩ o).gen = some (b, s, t) → b < w.heap.size := fun o b s t h1 h2 => A_lt h (owned_live h1) h2
  refine ⟨?_, hX1, ?_⟩
  · -- the blocks that are handed over are nobody's yet
    have hXX : ∀ b, b < w.heap.size → Own A ⟨L, gs⟩ (fun b => F b ∨ b ∈ B) b → Own A ⟨L, gs⟩ F b := by
      rintro b hb ((hF | hbB) | ho)
      · exact .inl hF
      · have := hB b hbB; omega
      · exact .inr ho
    have key : ∀ {v : Value} {a : AVal}, Rep A (Own A ⟨L, gs⟩ F) w v a → Rep A (Own A ⟨L, gs⟩ (fun b => F b ∨ b ∈ B)) w' v a := fun hr => hr.mono (.refl _) (fun b hb _ => hheap b hb) hXX
    have keyR : ∀ {arr : Array Value} {s : Nat} {es : List (List AVal)}, RowRep A (Own A ⟨L, gs⟩ F) w arr s es → RowRep A (Own A ⟨L, gs⟩ (fun b => F b ∨ b ∈ B)) w' arr s es := fun hr => hr.mono (.refl _) (fun b hb _ => hheap b hb) hXX
    refine { obj := fun o => ?_, inj := h.inj, sep := ?_, bound := ?_, gens := h.gens, gn := h.gn, fresh := h.fresh, nle := h.nle, hle := Nat.le_trans h.hle hX.size, glob := fun g cs hg => key (h.glob g cs hg) }
    · have hob := h.obj o
      unfold ObjOK at hob ⊢
      cases hs : (Mem.obj ⟨L, gs⟩ o).st with
      | dead => trivial
      | ro s es =>
        rw [hs] at hob
        obtain ⟨b, a', t, fr, h1, h2, h3, h4⟩ := hob
        have hb := (Array.getElem?_eq_some_iff.1 h2).1
        exact ⟨b, a', t, fr, h1, by rw [hheap b hb]; exact h2, keyR h3, fun e => h4 (hXX b hb e)⟩
      | row s es =>
        rw [hs] at hob
        obtain ⟨b, a', t, h1, h2, h3⟩ := hob
        have hb := (Array.getElem?_eq_some_iff.1 h2).1
        exact ⟨b, a', t, h1, by rw [hheap b hb]; exact h2, keyR h3⟩
      | box cs =>
        rw [hs] at hob
        obtain ⟨b, a', t, h1, h2, h3, h4⟩ := hob
        have hb := (Array.getElem?_eq_some_iff.1 h2).1
        exact ⟨b, a', t, h1, by rw [hheap b hb]; exact h2, ⟨h3.1, fun j x hx => key (h3.2 j x hx)⟩, h4⟩
    · rintro o b s t h1 h2 (hF | hbB)
      · exact h.sep o b s t h1 h2 hF
      · have := own_lt o b s t h1 h2
        have := hB b hbB
        omega
    · rintro b (hF | hbB)
      · exact Nat.lt_of_lt_of_le (h.bound b hF) hX.size
      · exact hBs b hbB
  · rintro b ((hF | hbB) | ⟨o, s, t, h1, h2⟩)
    · exact .inl (.inl (.inl hF))
    · exact .inl (.inr hbB)
    · cases o with
      | loc k => exact .inl (.inl (.inr ⟨k, s, t, h1, h2⟩))
      | glob k =>
        have hk : k < gs.n := by
          rcases Nat.lt_or_ge k gs.n with hk | hk
          · exact hk
          · have := (h.gn k hk).1
            rw [this] at h1
            simp [ownedSt] at h1
        have e := hX.keepG k hk
        rw [obj_globL] at h1 h2
        refine .inr ⟨.glob k, s, t, by rw [e]; exact h1, ?_⟩
        rw [e]
        exact hX.le _ _ _ h2

/-- Back from a call that writes. -/
theorem merge_eff {env : Env} {A A' : Gh} {F : Nat → Prop} {w w' : World} {L : Tbl AObj} {gs gs' : GS} {H0 N0 base : Nat} {B : List Nat} (h : WOK env A F w ⟨L, gs⟩ H0 N0) (hloc : ∀ k g, A' (.loc k) g = none)
    (hX : Ext base (fun b => F b ∨ locOwned A ⟨L, gs⟩ b) (globsOf A) ⟨noL, gs⟩ w A' ⟨noL, gs'⟩ w') (hW : WOK env A' (fun b => (F b ∨ locOwned A ⟨L, gs⟩ b) ∨ b ∈ B) w' ⟨noL, gs'⟩ w.heap.size gs.n) (hB : ∀ b ∈ B, w.heap.size ≤ b) (hBs : ∀ b ∈ B, b < w'.heap.size) :
    ∃ A2, (∀ k g x, A' (.glob k) g = some x → A2 (.glob k) g = some x) ∧ WOK env A2 (fun b => F b ∨ b ∈ B) w' ⟨L, gs'⟩ H0 N0 ∧ Ext base F A ⟨L, gs⟩ w A2 ⟨L, gs'⟩ w' ∧ (∀ b, Own A2 ⟨L, gs'⟩ (fun b => F b ∨ b ∈ B) b → Own A' ⟨noL, gs'⟩ (fun b => (F b ∨ locOwned A ⟨L, gs⟩ b) ∨ b ∈ B) b) := by
  refine ⟨fun o g => match o with | .loc k => A (.loc k) g | .glob k => A' (.glob k) g, fun _ _ _ h => h, ?_⟩
  generalize hA2 : (fun (o : OId) (g : Nat) => match o with | .loc k => A (.loc k) g | .glob k => A' (.glob k) g) = A2
  have a2l : ∀ k g, A2 (.loc k) g = A (.loc k) g := fun k g => by rw [← hA2]
  have a2g : ∀ k g, A2 (.glob k) g = A' (.glob k) g := fun k g => by rw [← hA2]
  have objL : ∀ k, Mem.obj ⟨L, gs'⟩ (.loc k) = Mem.obj ⟨L, gs⟩ (.loc k) := fun k => rfl
  have hle : A.Le A2 := by
    intro o g x hx
    cases o with
    | loc k => rw [a2l]; exact hx
    | glob k => rw [a2g]; exact hX.le _ _ _ hx
  have locF : ∀ k b s t, ownedSt (Mem.obj ⟨L, gs⟩ (.loc k)).st = true → A (.loc k) (Mem.obj ⟨L, gs⟩ (.loc k)).gen = some (b, s, t) → b < w.heap.size := fun k b s t h1 h2 => A_lt h (owned_live h1) h2
  -- the same blocks are owned
  have own1 : ∀ b, Own A2 ⟨L, gs'⟩ (fun b => F b ∨ b ∈ B) b → Own A' ⟨noL, gs'⟩ (fun b => (F b ∨ locOwned A ⟨L, gs⟩ b) ∨ b ∈ B) b := by
    rintro b ((hF | hbB) | ⟨o, s, t, h1, h2⟩)
    · exact .inl (.inl (.inl hF))
    · exact .inl (.inr hbB)
    · cases o with
      | loc k => rw [objL] at h1 h2; rw [a2l] at h2; exact .inl (.inl (.inr ⟨k, s, t, h1, h2⟩))
      | glob k => rw [a2g] at h2; exact .inr ⟨.glob k, s, t, h1, h2⟩
  have ownOld : ∀ b, b < w.heap.size → Own A2 ⟨L, gs'⟩ (fun b => F b ∨ b ∈ B) b → Own A ⟨L, gs⟩ F b := by
    intro b hb ho
    rcases own1 b ho with ((hF | hl) | hbB) | ho'
    · exact .inl hF
    · exact (own_split b).2 (.inl (.inr hl))
    · have := hB b hbB; omega
    · exact (own_split b).2 (hX.own b hb (.inr ho'))
  have ownF : ∀ b, Own A2 ⟨L, gs'⟩ F b → Own A2 ⟨L, gs'⟩ (fun b => F b ∨ b ∈ B) b := by
    rintro b (hF | ho)
    · exact .inl (.inl hF)
    · exact .inr ho
  have wrOld : ∀ b, Wr base (globsOf A) ⟨noL, gs⟩ b → Wr base A ⟨L, gs⟩ b := by
    rintro b ⟨o, s, t, h1, h2, h3⟩
    cases o with
    | loc k => rw [obj_noL] at h1; simp [AObj.none, ownedSt] at h1
    | glob k => exact ⟨.glob k, s, t, h1, h2, h3⟩
  have hheap : ∀ b, b < w.heap.size → ¬ Wr base A ⟨L, gs⟩ b → w'.heap[b]? = w.heap[b]? := fun b hb hn => hX.heap b hb (fun e => hn (wrOld b e))
  -- what this call owns alone is not written by the callee
  have hheapL : ∀ b, b < w.heap.size → locOwned A ⟨L, gs⟩ b → w'.heap[b]? = w.heap[b]? := by
    rintro b hb ⟨k, s, t, h1, h2⟩
    refine hX.heap b hb ?_
    rintro ⟨o, s', t', h3, h4, h5⟩
    cases o with
    | loc k => rw [obj_noL] at h3; simp [AObj.none, ownedSt] at h3
    | glob k' =>
      have := h.inj (.loc k) (.glob k') b s t s' t' h1 h3 h2 h5
      cases this
  have hheapX : ∀ b, b < w.heap.size → ¬ Own A ⟨L, gs⟩ F b → w'.heap[b]? = w.heap[b]? := fun b hb hn => hheap b hb (fun e => hn e.own)
  have key : ∀ {v : Value} {a : AVal}, Rep A (Own A ⟨L, gs⟩ F) w v a → Rep A2 (Own A2 ⟨L, gs'⟩ (fun b => F b ∨ b ∈ B)) w' v a := fun hr => hr.mono hle hheapX ownOld
  have keyR : ∀ {arr : Array Value} {s : Nat} {es : List (List AVal)}, RowRep A (Own A ⟨L, gs⟩ F) w arr s es → RowRep A2 (Own A2 ⟨L, gs'⟩ (fun b => F b ∨ b ∈ B)) w' arr s es := fun hr => hr.mono hle hheapX ownOld
  refine ⟨?_, ?_, own1⟩
  · refine { obj := fun o => ?_, inj := ?_, sep := ?_, bound := ?_, gens := ?_, gn := ?_, fresh := ?_, nle := Nat.le_trans h.nle hX.nle, hle := Nat.le_trans h.hle hX.size, glob := fun g cs hg => key (h.glob g cs hg) }
    · cases o with
      | loc k =>
        have hob := h.obj (.loc k)
        rw [objL]
        unfold ObjOK at hob ⊢
        cases hs : (Mem.obj ⟨L, gs⟩ (.loc k)).st with
        | dead => trivial
        | ro s es =>
          rw [hs] at hob
          obtain ⟨b, a', t, fr, h1, h2, h3, h4⟩ := hob
          have hb := (Array.getElem?_eq_some_iff.1 h2).1
          exact ⟨b, a', t, fr, by rw [a2l]; exact h1, by rw [hheapX b hb h4]; exact h2, keyR h3, fun e => h4 (ownOld b hb e)⟩
        | row s es =>
          rw [hs] at hob
          obtain ⟨b, a', t, h1, h2, h3⟩ := hob
          have hb := (Array.getElem?_eq_some_iff.1 h2).1
          exact ⟨b, a', t, by rw [a2l]; exact h1, by rw [hheapL b hb ⟨k, _, _, by rw [hs]; rfl, h1⟩]; exact h2, keyR h3⟩
        | box cs =>
          rw [hs] at hob
          obtain ⟨b, a', t, h1, h2, h3, h4⟩ := hob
          have hb := (Array.getElem?_eq_some_iff.1 h2).1
          exact ⟨b, a', t, by rw [a2l]; exact h1, by rw [hheapL b hb ⟨k, _, _, by rw [hs]; rfl, h1⟩]; exact h2, ⟨h3.1, fun j x hx => key (h3.2 j x hx)⟩, h4⟩
      | glob k =>
        have hob := hW.obj (.glob k)
        rw [obj_globL]
        unfold ObjOK at hob ⊢
        cases hs : (Mem.obj ⟨noL, gs'⟩ (.glob k)).st with
        | dead => trivial
        | ro s es =>
          rw [hs] at hob
          obtain ⟨b, a', t, fr, h1, h2, h3, h4⟩ := hob
          exact ⟨b, a', t, fr, by rw [a2g]; exact h1, h2, h3.any.sub own1, fun e => h4 (own1 b e)⟩
        | row s es =>
          rw [hs] at hob
          obtain ⟨b, a', t, h1, h2, h3⟩ := hob
          exact ⟨b, a', t, by rw [a2g]; exact h1, h2, h3.any.sub own1⟩
        | box cs =>
          rw [hs] at hob
          obtain ⟨b, a', t, h1, h2, h3, h4, h5⟩ := hob
          exact ⟨b, a', t, by rw [a2g]; exact h1, h2, ⟨h3.1, fun j x hx => ((h3.2 j x hx).shared_any (all_get (h5 k rfl) hx) (fun k g x hx => by rw [a2g]; exact hx)).shrink own1⟩, h4, h5⟩
    · intro o o' b s t s' t' h1 h2 h3 h4
      cases o with
      | loc k =>
        rw [objL] at h1 h3
        rw [a2l] at h3
        cases o' with
        | loc k' =>
          rw [objL] at h2 h4
          rw [a2l] at h4
          exact h.inj _ _ b s t s' t' h1 h2 h3 h4
        | glob k' =>
          rw [a2g] at h4
          exact absurd (.inl (.inr ⟨k, s, t, h1, h3⟩)) (hW.sep (.glob k') b s' t' h2 h4)
      | glob k =>
        rw [a2g] at h3
        cases o' with
        | loc k' =>
          rw [objL] at h2 h4
          rw [a2l] at h4
          exact absurd (.inl (.inr ⟨k', s', t', h2, h4⟩)) (hW.sep (.glob k) b s t h1 h3)
        | glob k' =>
          rw [a2g] at h4
          exact hW.inj (.glob k) (.glob k') b s t s' t' h1 h2 h3 h4
    · rintro o b s t h1 h2 hF
      cases o with
      | loc k =>
        rw [objL] at h1 h2
        rw [a2l] at h2
        rcases hF with hF | hbB
        · exact h.sep (.loc k) b s t h1 h2 hF
        · have := locF k b s t h1 h2
          have := hB b hbB
          omega
      | glob k =>
        rw [a2g] at h2
        exact hW.sep (.glob k) b s t h1 h2 (hF.imp .inl id)
    · rintro b (hF | hbB)
      · exact Nat.lt_of_lt_of_le (h.bound b hF) hX.size
      · exact hBs b hbB
    · intro o g hg
      cases o with
      | loc k => rw [a2l]; exact h.gens (.loc k) g hg
      | glob k => rw [a2g]; exact hW.gens (.glob k) g hg
    · intro k hk
      exact ⟨(hW.gn k hk).1, fun g => by rw [a2g]; exact (hW.gn k hk).2 g⟩
    · intro o hkind b s t hl hA
      cases o with
      | loc k =>
        rw [objL] at hl hA
        rw [a2l] at hA
        exact h.fresh (.loc k) hkind b s t hl hA
      | glob k =>
        rw [a2g] at hA
        rcases Nat.lt_or_ge b w.heap.size with hb | hb
        · obtain ⟨s', t', h1, h2⟩ := hX.keep (.glob k) b s t hl hA hb
          exact h.fresh (.glob k) hkind b s' t' h1 h2
        · exact Nat.le_trans h.hle hb
  · refine { le := hle, size := hX.size, os := hX.os, tape := hX.tape, output := hX.output, heap := hheap, own := fun b hb ho => ownOld b hb (ownF b ho), wr := ?_, keep := ?_, keepG := fun k hk => hX.keepG k hk, nle := hX.nle }
    · rintro b hb ⟨o, s, t, h1, h2, h3⟩
      cases o with
      | loc k => rw [objL] at h1 h3; rw [a2l] at h3; exact ⟨.loc k, s, t, h1, h2, h3⟩
      | glob k => rw [a2g] at h3; exact wrOld b (hX.wr b hb ⟨.glob k, s, t, h1, h2, h3⟩)
    · intro o b s t h1 h2 hb
      cases o with
      | loc k => rw [objL] at h1 h2; rw [a2l] at h2; exact ⟨s, t, h1, h2⟩
      | glob k =>
        rw [a2g] at h2
        obtain ⟨s', t', h3, h4⟩ := hX.keep (.glob k) b s t h1 h2 hb
        exact ⟨s', t', h3, h4⟩

/-- A row that was handed over becomes one of this call's. -/
theorem WOK.adopt {env : Env} {A A0 : Gh} {F : Nat → Prop} {w w0 : World} {m m0 : Mem} {H0 N0 base b : Nat} {B : List Nat} (h : WOK env A (fun x => F x ∨ x ∈ b :: B) w m H0 N0) (hX : Ext base F A0 m0 w0 A m w) (hb0 : w0.heap.size ≤ b) (hH : H0 ≤ w0.heap.size) (hbB : b ∉ B) (hbF : ¬ F b) (hbase : base ≤ m.gs.n)
    {glob : Bool} {key sz : Nat} {es : List (List AVal)} {o : OId} {g : Nat} {m' : Mem} (hn : newObj glob key m (.row sz es) = (o, g, m')) {arr : Array Value} {ty : TypeId} (hb : w.heap[b]? = some (.cells arr ty (0, 0))) (hr : RowRep A (Own A m (fun x => F x ∨ x ∈ b :: B)) w arr sz es) :
    ∃ A', A' o g = some (b, sz, arr.size) ∧ A.Le A' ∧ WOK env A' (fun x => F x ∨ x ∈ B) w m' H0 N0 ∧ Ext base F A0 m0 w0 A' m' w ∧ (∀ x, Own A' m' (fun x => F x ∨ x ∈ B) x → Own A m (fun x => F x ∨ x ∈ b :: B) x) ∧ m.gs.n ≤ m'.gs.n := by
  obtain ⟨hobj, hA0, hA1, hfr, hnle, hnk, hgs, hgl, hgn⟩ := newObj_spec h hn
  refine ⟨A.upd o g (b, sz, arr.size), Gh.upd_self .., Gh.upd_le hA0, ?_⟩
  have hle : A.Le (A.upd o g (b, sz, arr.size)) := Gh.upd_le hA0
  have hold : ∀ o' b' s t, o' ≠ o → (A.upd o g (b, sz, arr.size)) o' (m'.obj o').gen = some (b', s, t) → A o' (m'.obj o').gen = some (b', s, t) := by
    intro o' b' s t ho' hA
    rw [hobj, if_neg ho', Gh.upd_other ho'] at hA
    rw [hobj, if_neg ho']
    exact hA
  have hself : ∀ b' s t, (A.upd o g (b, sz, arr.size)) o (m'.obj o).gen = some (b', s, t) → b' = b := by
    intro b' s t hA
    rw [hobj, if_pos rfl, Gh.upd_self] at hA
    cases hA; rfl
  have hown' : ∀ x, Own (A.upd o g (b, sz, arr.size)) m' (fun x => F x ∨ x ∈ B) x → Own A m (fun x => F x ∨ x ∈ b :: B) x := by
    rintro x ((hF | hxB) | ⟨o', s, t, h1, h2⟩)
    · exact .inl (.inl hF)
    · exact .inl (.inr (List.mem_cons_of_mem _ hxB))
    · by_cases ho' : o' = o
      · subst ho'; rw [hself _ _ _ h2]; exact .inl (.inr List.mem_cons_self)
      · have h2' := hold _ _ _ _ ho' h2
        rw [hobj, if_neg ho'] at h1 h2'
        exact .inr ⟨o', s, t, h1, h2'⟩
  have mono : ∀ {v : Value} {a : AVal}, Rep A (Own A m (fun x => F x ∨ x ∈ b :: B)) w v a → Rep (A.upd o g (b, sz, arr.size)) (Own (A.upd o g (b, sz, arr.size)) m' (fun x => F x ∨ x ∈ B)) w v a := fun hr => hr.mono hle (fun _ _ _ => rfl) (fun x _ => hown' x)
  have monoR : ∀ {arr' : Array Value} {s : Nat} {es : List (List AVal)}, RowRep A (Own A m (fun x => F x ∨ x ∈ b :: B)) w arr' s es → RowRep (A.upd o g (b, sz, arr.size)) (Own (A.upd o g (b, sz, arr.size)) m' (fun x => F x ∨ x ∈ B)) w arr' s es := fun hr => hr.mono hle (fun _ _ _ => rfl) (fun x _ => hown' x)
  have notold : ∀ o' s t, ownedSt (m.obj o').st = true → A o' (m.obj o').gen = some (b, s, t) → False := fun o' s t h1 h2 => h.sep o' b s t h1 h2 (.inr List.mem_cons_self)
  refine ⟨?_, ?_, hown', hnle⟩
  · refine { obj := fun o' => ?_, inj := ?_, sep := ?_, bound := ?_, gens := ?_, gn := ?_, fresh := ?_, nle := Nat.le_trans h.nle hnle, hle := h.hle, glob := fun gl cs hg => mono (h.glob gl cs hg) }
    · by_cases ho' : o' = o
      · subst ho'
        rw [hobj, if_pos rfl]
        exact ⟨b, arr, ty, Gh.upd_self .., hb, monoR hr⟩
      · rw [hobj, if_neg ho']
        have hob := h.obj o'
        unfold ObjOK at hob ⊢
        cases hs : (m.obj o').st with
        | dead => trivial
        | ro s es =>
          rw [hs] at hob
          obtain ⟨b', a', t, fr, h1, h2, h3, h4⟩ := hob
          exact ⟨b', a', t, fr, by rw [Gh.upd_other ho']; exact h1, h2, monoR h3, fun e => h4 (hown' b' e)⟩
        | row s es =>
          rw [hs] at hob
          obtain ⟨b', a', t, h1, h2, h3⟩ := hob
          exact ⟨b', a', t, by rw [Gh.upd_other ho']; exact h1, h2, monoR h3⟩
        | box cs =>
          rw [hs] at hob
          obtain ⟨b', a', t, h1, h2, h3, h4⟩ := hob
          exact ⟨b', a', t, by rw [Gh.upd_other ho']; exact h1, h2, ⟨h3.1, fun j x hx => mono (h3.2 j x hx)⟩, h4⟩
    · intro o1 o2 x s t s' t' h1 h2 h3 h4
      by_cases e1 : o1 = o <;> by_cases e2 : o2 = o
      · rw [e1, e2]
      · exfalso
        subst e1
        have h4' := hold _ _ _ _ e2 h4
        rw [hobj, if_neg e2] at h2 h4'
        rw [hself _ _ _ h3] at h4'
        exact notold o2 s' t' h2 h4'
      · exfalso
        subst e2
        have h3' := hold _ _ _ _ e1 h3
        rw [hobj, if_neg e1] at h1 h3'
        rw [hself _ _ _ h4] at h3'
        exact notold o1 s t h1 h3'
      · have h3' := hold _ _ _ _ e1 h3
        have h4' := hold _ _ _ _ e2 h4
        rw [hobj, if_neg e1] at h1 h3'
        rw [hobj, if_neg e2] at h2 h4'
        exact h.inj o1 o2 x s t s' t' h1 h2 h3' h4'
    · intro o' x s t h1 h2 hF
      by_cases e1 : o' = o
      · subst e1
        rw [hself _ _ _ h2] at hF
        rcases hF with hF | hF
        · exact hbF hF
        · exact hbB hF
      · have h2' := hold _ _ _ _ e1 h2
        rw [hobj, if_neg e1] at h1 h2'
        exact h.sep o' x s t h1 h2' (hF.imp id (List.mem_cons_of_mem _))
    · rintro x (hF | hxB)
      · exact h.bound x (.inl hF)
      · exact h.bound x (.inr (List.mem_cons_of_mem _ hxB))
    · intro o' g' hg
      by_cases e1 : o' = o
      · subst e1
        rw [hobj, if_pos rfl] at hg
        have hg : g < g' := hg
        simp only [Gh.upd]
        rw [if_neg (by intro e; omega)]
        exact hA1 g' hg
      · rw [hobj, if_neg e1] at hg
        rw [Gh.upd_other e1]
        exact h.gens o' g' hg
    · intro k hk
      have hne := hnk k hk
      rw [hobj, if_neg (fun e => hne e.symm)]
      refine ⟨(h.gn k (Nat.le_trans hnle hk)).1, fun g' => ?_⟩
      rw [Gh.upd_other (fun e => hne e.symm)]
      exact (h.gn k (Nat.le_trans hnle hk)).2 g'
    · intro o' hkind x s t hl hA
      by_cases e1 : o' = o
      · subst e1
        rw [hself _ _ _ hA]
        omega
      · have hA' := hold _ _ _ _ e1 hA
        rw [hobj, if_neg e1] at hl hA'
        exact h.fresh o' hkind x s t hl hA'
  · refine { le := hX.le.trans hle, size := hX.size, os := hX.os, tape := hX.tape, output := hX.output, heap := hX.heap, own := ?_, wr := ?_, keep := ?_, keepG := ?_, nle := Nat.le_trans hX.nle hnle }
    · rintro x hx (hF | ⟨o', s, t, h1, h2⟩)
      · exact .inl hF |> hX.own x hx
      · by_cases ho' : o' = o
        · subst ho'; have := hself _ _ _ h2; omega
        · have h2' := hold _ _ _ _ ho' h2
          rw [hobj, if_neg ho'] at h1 h2'
          exact hX.own x hx (.inr ⟨o', s, t, h1, h2'⟩)
    · rintro x hx ⟨o', s, t, h1, h2, h3⟩
      by_cases ho' : o' = o
      · subst ho'; have := hself _ _ _ h3; omega
      · have h3' := hold _ _ _ _ ho' h3
        rw [hobj, if_neg ho'] at h1 h3'
        exact hX.wr x hx ⟨o', s, t, h1, h2, h3'⟩
    · intro o' x s t h1 h2 hx
      by_cases ho' : o' = o
      · subst ho'; have := hself _ _ _ h2; omega
      · have h2' := hold _ _ _ _ ho' h2
        rw [hobj, if_neg ho'] at h1 h2'
        exact hX.keep o' x s t h1 h2' hx
    · intro k hk
      rw [hobj, if_neg]
      · exact hX.keepG k hk
      · intro e
        have := hgn k e.symm
        omega
theorem place_spec {env : Env} {F : Nat → Prop} {w w0 : World} {A0 : Gh} {m0 : Mem} {H0 N0 base : Nat} (glob : Bool) (hH : H0 ≤ w0.heap.size) (hF0 : ∀ b, F b → b < w0.heap.size) : ∀ (rs : List RV) (key : Nat) (m : Mem) (A : Gh) (B : List Nat) (vs : List Value), WOK env A (fun x => F x ∨ x ∈ B) w m H0 N0 → Ext base F A0 m0 w0 A m w → (∀ b ∈ B, w0.heap.size ≤ b) → B.Nodup → base ≤ m.gs.n →
    GivenL A (Own A m (fun x => F x ∨ x ∈ B)) w vs rs B →
    ∃ A', A.Le A' ∧ (∀ x, Own A' (placeL glob key m rs).2 F x → Own A m (fun x => F x ∨ x ∈ B) x) ∧ WOK env A' F w (placeL glob key m rs).2 H0 N0 ∧ Ext base F A0 m0 w0 A' (placeL glob key m rs).2 w ∧ RepL A' (Own A' (placeL glob key m rs).2 F) w vs (placeL glob key m rs).1
  | [], key, m, A, B, vs, h, hX, hB, hN, hbase, hg => by
    cases hg
    refine ⟨A, .refl _, ?_, ?_, hX, .nil⟩
    · intro x hx; simpa [placeL] using hx
    · simpa [placeL] using h
  | .v a :: rs, key, m, A, B, vs, h, hX, hB, hN, hbase, hg => by
    cases hg with
    | v v _ vs _ _ hv ht =>
      obtain ⟨A', h0, h00, h1, h2, h3⟩ := place_spec glob hH hF0 rs (key + 1) m A B vs h hX hB hN hbase ht
      exact ⟨A', h0, h00, h1, h2, .cons (hv.mono h0 (fun _ _ _ => rfl) (fun x _ => h00 x)) h3⟩
  | .row sz es :: rs, key, m, A, B, vs, h, hX, hB, hN, hbase, hg => by
    cases hg with
    | row b c _ _ arr ty vs _ B hc hb hs hr ht =>
      generalize hno : newObj glob key m (.row sz es) = no
      obtain ⟨o, g, m'⟩ := no
      have hb0 := hB b List.mem_cons_self
      obtain ⟨hbB, hN'⟩ := List.nodup_cons.1 hN
      obtain ⟨A1, q1, q2, q3, q4, q5, q6⟩ := h.adopt hX hb0 hH hbB (fun hF => by have := hF0 b hF; omega) hbase hno hb hr
      obtain ⟨A', h0, h00, h1, h2, h3⟩ := place_spec glob hH hF0 rs (key + 1) m' A1 B vs q3 q4 (fun x hx => hB x (List.mem_cons_of_mem _ hx)) hN' (Nat.le_trans hbase q6) (ht.mono q2 q5)
      have ep : placeL glob key m (.row sz es :: rs) = (.hs o g 0 es.length :: (placeL glob (key + 1) m' rs).1, (placeL glob (key + 1) m' rs).2) := by simp [placeL, place1, hno]
      rw [ep]
      refine ⟨A', q2.trans h0, fun x hx => q5 x (h00 x hx), h1, h2, .cons ?_ h3⟩
      have := Rep.hs (A := A') (X := Own A' (placeL glob (key + 1) m' rs).2 F) (w := w) o g 0 es.length c b sz arr.size (h0 _ _ _ q1) hc (by rw [Nat.zero_add]; exact hs)
      simpa using this

theorem noRows {glob : Bool} : ∀ (rs : List RV) (key : Nat) (m : Mem), rs.any isRow = false → (placeL glob key m rs).2 = m
  | [], _, _, _ => rfl
  | .v a :: rs, key, m, h => by
    simp only [List.any_cons, isRow, Bool.false_or] at h
    simpa [placeL, place1] using noRows rs (key + 1) m h
  | .row _ _ :: rs, _, _, h => by simp [isRow] at h

/-- Rows that are given up as they come. -/
theorem WOK.less {env : Env} {A : Gh} {F F' : Nat → Prop} {w : World} {m : Mem} {H0 N0 : Nat} (hF : ∀ b, F' b → F b) (h : WOK env A F w m H0 N0) : WOK env A F' w m H0 N0 := by
  have hO : ∀ b, Own A m F' b → Own A m F b := fun b hb => hb.elim (fun h => .inl (hF b h)) .inr
  refine { obj := fun o => ?_, inj := h.inj, sep := fun o b s t h1 h2 h3 => h.sep o b s t h1 h2 (hF b h3), bound := fun b hb => h.bound b (hF b hb), gens := h.gens, gn := h.gn, fresh := h.fresh, nle := h.nle, hle := h.hle, glob := fun g cs hg => (h.glob g cs hg).shrink hO }
  have := h.obj o
  unfold ObjOK at this ⊢
  split
  · trivial
  · rename_i sz es hs
    rw [hs] at this
    obtain ⟨b, arr, t, fr, h1, h2, h3, h4⟩ := this
    exact ⟨b, arr, t, fr, h1, h2, h3.sub hO, fun e => h4 (hO b e)⟩
  · rename_i sz es hs
    rw [hs] at this
    obtain ⟨b, arr, t, h1, h2, h3⟩ := this
    exact ⟨b, arr, t, h1, h2, h3.sub hO⟩
  · rename_i cs hs
    rw [hs] at this
    obtain ⟨b, arr, t, h1, h2, h3, h4, h5⟩ := this
    exact ⟨b, arr, t, h1, h2, ⟨h3.1, fun j x hx => (h3.2 j x hx).shrink hO⟩, h4, h5⟩
theorem RowRep.frozen {A : Gh} {X : Nat → Prop} {w : World} {arr : Array Value} {sz : Nat} {es : List (List AVal)} {b c : Nat} {ty : TypeId} {fr : Nat × Nat} (h : RowRep A X w arr sz es) (hc : es.length ≤ c) (hb : w.heap[b]? = some (.cells arr ty fr)) (hX : ¬ X b) : Rep A X w (.slice (some ⟨b, 0, none⟩) es.length c) (.sl es) := by
  obtain ⟨h0, h1, h2, h3⟩ := h
  refine .sl ⟨b, 0, none⟩ es.length c sz es (fun i j => (arr[i * sz + j]?).getD undef) h0 rfl hc h2 (fun i e j x h4 h5 => ?_) (fun i e j x h4 h5 => ?_)
  · obtain ⟨hf, u, hu, hr⟩ := h3 i e j x h4 h5
    refine ⟨hf, hX, ?_⟩
    rw [add_cells, Nat.zero_add]
    simp [World.cell?, hb, hu]
  · obtain ⟨hf, u, hu, hr⟩ := h3 i e j x h4 h5
    rw [hu]
    exact hr
theorem GivenL.frozen {A : Gh} {X : Nat → Prop} {w : World} {vs : List Value} {rs : List RV} {B : List Nat} (h : GivenL A X w vs rs B) (hX : ∀ b ∈ B, ¬ X b) : GivenL A X w vs (rs.map frozenRV) [] := by
  induction h with
  | nil => exact .nil
  | v v a vs rs B h t ih => exact .v v a vs _ [] h (ih hX)
  | row b c sz es arr ty vs rs B hc hb hs h t ih => exact .v _ _ vs _ [] (h.frozen hc hb (hX b List.mem_cons_self)) (ih fun b hb => hX b (List.mem_cons_of_mem _ hb))

/-- A call is right. -/
theorem aCall_spec {P : Program} {env : Env} (hE : EnvOK P env) {C : CallF} (hC : Sound P env C) {base : Nat} {F : Nat → Prop} {H0 N0 : Nat} {A : Gh} {w : World} {s : St} (h : WOK env A F w s.m H0 N0) (hbase : base ≤ s.m.gs.n) {act : Act} (hfr : ∀ t, Rep A (Own A s.m F) w (act.tmps.getD t undef) (s.get t))
    {f : FuncId} {o : Oper} {r : AVal} {m1 : Option Mem} (ho : aCall C env f base o s = some (r, m1)) {K : Act → World → Prop} {Q : Exit → Act → World → Prop}
    (hK : ∀ v w' A', WOK env A' F w' (m1.getD s.m) H0 N0 → Ext base F A s.m w A' (m1.getD s.m) w' → Rep A' (Own A' (m1.getD s.m) F) w' v r → K (act.put o.dst v) w') : o.wp P act w K Q := by
  unfold aCall at ho
  simp only at ho
  obtain ⟨⟨g, args0⟩, hcal, ho1⟩ := Option.bind_eq_some_iff.1 ho
  clear ho
  simp only at ho1
  obtain ⟨⟨args, m0⟩, hpass, ho2⟩ := Option.bind_eq_some_iff.1 ho1
  clear ho1
  simp only at ho2
  obtain ⟨⟨rs0, gs'⟩, hrun, ho3⟩ := Option.bind_eq_some_iff.1 ho2
  clear ho2
  simp only at ho3
  split at ho3
  rotate_left
  · cases ho3
  rename_i hlen
  obtain ⟨pr, hpr⟩ : ∃ pr, env.pureApp f (o.dst.getD 0) = pr := ⟨_, rfl⟩
  rw [hpr] at hlen ho3
  -- who is called, and with what
  obtain ⟨vargs, hexec, hargs⟩ : ∃ vargs, ((∃ fn, env.funcs g = some fn ∧ fn.body.isSome = true) → (execOp act.eval o).run P w = .ok (.enter g vargs.toArray) w) ∧ RepL A (Own A s.m F) w vargs args0 := by
    unfold callee? at hcal
    split at hcal
    · rename_i c hop
      split at hcal
      · rename_i fo hce
        obtain ⟨af, haf, hcal1⟩ := Option.bind_eq_some_iff.1 hcal
        clear hcal
        split at hcal1
        · rename_i g' first caps
          simp only [Option.map_eq_some_iff, Prod.mk.injEq] at hcal1
          obtain ⟨as, has, rfl, rfl⟩ := hcal1
          obtain ⟨fs, cs, hv, h1, h2, r1, r2⟩ := (eval_spec h hfr haf).clo_inv
          have hra := evals_spec h hfr has
          refine ⟨fs.toList ++ c.args.toList.map act.eval ++ cs.toList, ?_, ?_⟩
          · rintro ⟨fn, hfn, hbody⟩
            obtain ⟨hP, hname⟩ := hE.funcs _ _ hfn
            have hb : ¬ fn.body = none := by intro e; rw [e] at hbody; simp at hbody
            have hname' : ¬ fn.name = "runtime.NumGoroutine" := by simpa using hname
            have earr : fs ++ (Array.map act.eval c.args ++ cs) = (fs.toList ++ c.args.toList.map act.eval ++ cs.toList).toArray := by apply Array.ext'; simp
            rw [← earr]
            simp [execOp, hop, resolve, hce, hv, Deferred.ofValue, invoke, callFunc, program, Sem.run, hP, hname', hb]
          · exact RepL.append (RepL.append (show RepL A (Own A s.m F) w fs.toList first from ⟨by simpa using h1, fun j x hx => by simpa using r1 j x hx⟩) hra) (show RepL A (Own A s.m F) w cs.toList caps from ⟨by simpa using h2, fun j x hx => by simpa using r2 j x hx⟩)
        · cases hcal1
      · cases hcal
    · cases hcal
  obtain ⟨k1, k2, k3, k4⟩ := passVs_spec base vargs args0 args s.m m0 h hargs hpass
  generalize hm : m0.getD s.m = m at k1 k2 k3 hrun ho3
  obtain ⟨L, gs⟩ := m
  have hbase' : base ≤ gs.n := Nat.le_trans hbase k2.nle
  obtain ⟨hbody, hcalls⟩ := hC g args _ gs rs0 gs' hrun k4 (by split <;> first | exact hbase' | exact Nat.le_refl _) (fun e => by rw [e]; simp)
  have hargs' : RepL (globsOf A) (Own (globsOf A) ⟨noL, gs⟩ (fun b => F b ∨ locOwned A ⟨L, gs⟩ b)) w vargs args :=
    ⟨k3.1, fun j x hx => Rep.shrink (fun b hb => (own_split b).2 hb) ((k3.2 j x hx).arg_any (A' := globsOf A) (all_get k4 hx) (fun _ _ _ h => h))⟩
  have hcall := hcalls (globsOf A) _ w vargs (fun _ _ => rfl) k1.enter hargs'
  unfold Oper.wp
  rw [hexec hbody]
  show Calls P g vargs.toArray w _
  refine hcall.mono ?_
  rintro e w' ⟨v, rfl, A', B, vs, rfl, hloc, hX, hW, hB, hN, hg, hok⟩
  show K (act.put o.dst (resV vs)) w'
  have hBs : ∀ b ∈ B, b < w'.heap.size := fun b hb => hW.bound b (.inr hb)
  -- the rows are placed
  have fin : ∀ (A2 : Gh) (m2 : Mem), WOK env A2 (fun x => F x ∨ x ∈ B) w' m2 H0 N0 → Ext base F A ⟨L, gs⟩ w A2 m2 w' → base ≤ m2.gs.n → GivenL A2 (Own A2 m2 (fun x => F x ∨ x ∈ B)) w' vs rs0 B →
      (match (placeL (env.site f (o.dst.getD 0)) (4 * (o.dst.getD 0)) m2 (asSeen pr rs0)).1 with | [v] => v | vs => .tup vs) = r → m1.getD s.m = (placeL (env.site f (o.dst.getD 0)) (4 * (o.dst.getD 0)) m2 (asSeen pr rs0)).2 → K (act.put o.dst (resV vs)) w' := by
    intro A2 m2 q1 q2 q3 q4 q5 q6
    obtain ⟨A3, p1, p2, p3⟩ : ∃ A3, WOK env A3 F w' (placeL (env.site f (o.dst.getD 0)) (4 * (o.dst.getD 0)) m2 (asSeen pr rs0)).2 H0 N0 ∧ Ext base F A ⟨L, gs⟩ w A3 (placeL (env.site f (o.dst.getD 0)) (4 * (o.dst.getD 0)) m2 (asSeen pr rs0)).2 w' ∧ RepL A3 (Own A3 (placeL (env.site f (o.dst.getD 0)) (4 * (o.dst.getD 0)) m2 (asSeen pr rs0)).2 F) w' vs (placeL (env.site f (o.dst.getD 0)) (4 * (o.dst.getD 0)) m2 (asSeen pr rs0)).1 := by
      cases pr with
      | false =>
        obtain ⟨A3, _, _, p1, p2, p3⟩ := place_spec (env.site f (o.dst.getD 0)) k1.hle k1.bound rs0 (4 * (o.dst.getD 0)) m2 A2 B vs q1 q2 hB hN q3 q4
        exact ⟨A3, p1, p2, p3⟩
      | true =>
        have hsub : ∀ b, Own A2 m2 (fun x => F x ∨ x ∈ ([] : List Nat)) b → Own A2 m2 (fun x => F x ∨ x ∈ B) b := fun b hb => hb.elim (fun h => .inl (h.elim .inl (fun h => by simp at h))) .inr
        have q1' : WOK env A2 (fun x => F x ∨ x ∈ ([] : List Nat)) w' m2 H0 N0 := q1.less (fun b hb => hb.elim .inl (fun h => by simp at h))
        have hoff : ∀ b ∈ B, ¬ Own A2 m2 (fun x => F x ∨ x ∈ ([] : List Nat)) b := by
          rintro b hb (h | ⟨o', s', t', h1, h2⟩)
          · rcases h with h | h
            · have := k1.bound b h; have := hB b hb; omega
            · simp at h
          · exact q1.sep o' b s' t' h1 h2 (.inr hb)
        have q4' : GivenL A2 (Own A2 m2 (fun x => F x ∨ x ∈ ([] : List Nat))) w' vs (asSeen true rs0) [] := (q4.mono (.refl _) hsub).frozen hoff
        obtain ⟨A3, _, _, p1, p2, p3⟩ := place_spec (env.site f (o.dst.getD 0)) k1.hle k1.bound (asSeen true rs0) (4 * (o.dst.getD 0)) m2 A2 [] vs q1' q2 (by simp) (by simp) q3 q4'
        exact ⟨A3, p1, p2, p3⟩
    refine hK (resV vs) w' A3 (by rw [q6]; exact p1) (by rw [q6]; exact k2.trans p2) ?_
    rw [q6]
    rw [← q5]
    generalize (placeL (env.site f (o.dst.getD 0)) (4 * (o.dst.getD 0)) m2 (asSeen pr rs0)).1 = as at p3
    have hl := p3.1
    match as, vs with
    | [a], [v] => exact p3.head
    | [], [] => exact .tup _ _ rfl (by simp)
    | a :: b :: l, v :: u :: vs => exact .tup _ _ (by simpa using hl) (fun j x hx => by simpa using p3.2 j x hx)
    | [], _ :: _ => simp at hl
    | _ :: _, [] => simp at hl
    | [_], _ :: _ :: _ => simp at hl
    | _ :: _ :: _, [_] => simp at hl
  cases heff : env.eff g with
  | false =>
    simp only [heff, Bool.false_eq_true, if_false, Bool.false_or] at hX hok ho3 hg
    obtain ⟨p1, p2, p3⟩ := merge_ro (base := base) k1 hX hW hB hBs
    simp only [Option.some.injEq, Prod.mk.injEq] at ho3
    refine fin A ⟨L, gs⟩ p1 p2 hbase' (hg.fix p3 hok) ho3.1 ?_
    rw [← ho3.2]
    cases hrow : (asSeen pr rs0).any isRow with
    | false => simp only [Bool.false_eq_true, if_false]; rw [noRows _ _ _ hrow]; exact hm
    | true => simp
  | true =>
    simp only [heff, if_true, Bool.true_or] at hX hok ho3 hg
    obtain ⟨A2, p0, p1, p2, p3⟩ := merge_eff k1 hloc hX hW hB hBs
    simp only [Option.some.injEq, Prod.mk.injEq] at ho3
    refine fin A2 ⟨L, gs'⟩ p1 p2 (Nat.le_trans hbase' hX.nle) (hg.arg p3 p0 hok) ho3.1 ?_
    rw [← ho3.2]; rfl
end Go.Abs
