/-
  THE ABSTRACT INTERPRETER, memory: worlds that hold an abstract memory, and its steps. By this seat's session.
-/
import Derived.Test.YtjcgaelibiiiiaaDoorAbsRep
set_option linter.unusedVariables false
set_option linter.unusedSimpArgs false
namespace Go.Abs

def ownedSt : OSt → Bool
  | .row _ _ => true
  | .box _ => true
  | _ => false
def Own (A : Gh) (m : Mem) (F : Nat → Prop) (b : Nat) : Prop := F b ∨ ∃ o sz tot, ownedSt (m.obj o).st = true ∧ A o (m.obj o).gen = some (b, sz, tot)
def Wr (base : Nat) (A : Gh) (m : Mem) (b : Nat) : Prop := ∃ o sz tot, ownedSt (m.obj o).st = true ∧ mayWrite base o = true ∧ A o (m.obj o).gen = some (b, sz, tot)
theorem Wr.own {base : Nat} {A : Gh} {m : Mem} {F : Nat → Prop} {b : Nat} (h : Wr base A m b) : Own A m F b := by
  obtain ⟨o, sz, tot, h1, _, h2⟩ := h
  exact .inr ⟨o, sz, tot, h1, h2⟩

def RowRep (A : Gh) (X : Nat → Prop) (w : World) (arr : Array Value) (sz : Nat) (es : List (List AVal)) : Prop :=
  0 < sz ∧ es.length * sz ≤ arr.size ∧ (∀ e ∈ es, e.length = sz) ∧ ∀ i e j x, es[i]? = some e → e[j]? = some x → x.fixed = true ∧ ∃ u, arr[i * sz + j]? = some u ∧ Rep A X w u x
def ObjOK (A : Gh) (X : Nat → Prop) (w : World) (x : AObj) (o : OId) : Prop :=
  match x.st with
  | .dead => True
  | .ro sz es => ∃ b arr t fr, A o x.gen = some (b, sz, arr.size) ∧ w.heap[b]? = some (.cells arr t fr) ∧ RowRep A X w arr sz es ∧ ¬ X b
  | .row sz es => ∃ b arr t, A o x.gen = some (b, sz, arr.size) ∧ w.heap[b]? = some (.cells arr t (0, 0)) ∧ RowRep A X w arr sz es
  | .box cs => ∃ b arr t, A o x.gen = some (b, cs.length, cs.length) ∧ w.heap[b]? = some (.cells arr t (0, 0)) ∧ RepL A X w arr.toList cs ∧ cs.all AVal.isCell = true ∧ (∀ k, o = .glob k → cs.all AVal.shared = true)

structure WOK (env : Env) (A : Gh) (F : Nat → Prop) (w : World) (m : Mem) (H0 N0 : Nat) : Prop where
  obj : ∀ o, ObjOK A (Own A m F) w (m.obj o) o
  inj : ∀ o o' b s t s' t', ownedSt (m.obj o).st = true → ownedSt (m.obj o').st = true → A o (m.obj o).gen = some (b, s, t) → A o' (m.obj o').gen = some (b, s', t') → o = o'
  sep : ∀ o b s t, ownedSt (m.obj o).st = true → A o (m.obj o).gen = some (b, s, t) → ¬ F b
  bound : ∀ b, F b → b < w.heap.size
  gens : ∀ o g, (m.obj o).gen < g → A o g = none
  gn : ∀ k, m.gs.n ≤ k → (m.obj (.glob k)).st = .dead ∧ ∀ g, A (.glob k) g = none
  fresh : ∀ o, ((∃ k, o = .loc k) ∨ (∃ k, o = .glob k ∧ N0 ≤ k)) → ∀ b s t, (m.obj o).st ≠ .dead → A o (m.obj o).gen = some (b, s, t) → H0 ≤ b
  nle : N0 ≤ m.gs.n
  hle : H0 ≤ w.heap.size
  glob : ∀ g cs, env.globals g = some cs → Rep A (Own A m F) w (.pointer (some ⟨g, 0, none⟩)) (.ip cs)

structure Ext (base : Nat) (F : Nat → Prop) (A : Gh) (m : Mem) (w : World) (A' : Gh) (m' : Mem) (w' : World) : Prop where
  le : A.Le A'
  size : w.heap.size ≤ w'.heap.size
  os : w'.os = w.os
  tape : w'.tape = w.tape
  output : w'.output = w.output
  heap : ∀ b, b < w.heap.size → ¬ Wr base A m b → w'.heap[b]? = w.heap[b]?
  own : ∀ b, b < w.heap.size → Own A' m' F b → Own A m F b
  wr : ∀ b, b < w.heap.size → Wr base A' m' b → Wr base A m b
  keep : ∀ o b s t, (m'.obj o).st ≠ .dead → A' o (m'.obj o).gen = some (b, s, t) → b < w.heap.size → ∃ s' t', (m.obj o).st ≠ .dead ∧ A o (m.obj o).gen = some (b, s', t')
  keepG : ∀ k, k < base → m'.obj (.glob k) = m.obj (.glob k)
  nle : m.gs.n ≤ m'.gs.n
theorem Ext.refl (base : Nat) (F : Nat → Prop) (A : Gh) (m : Mem) (w : World) : Ext base F A m w A m w :=
  ⟨.refl A, Nat.le_refl _, rfl, rfl, rfl, fun _ _ _ => rfl, fun _ _ h => h, fun _ _ h => h, fun _ b s t h1 h2 _ => ⟨s, t, h1, h2⟩, fun _ _ => rfl, Nat.le_refl _⟩
theorem Ext.trans {base : Nat} {F : Nat → Prop} {A B C : Gh} {m m1 m2 : Mem} {w w1 w2 : World} (h : Ext base F A m w B m1 w1) (k : Ext base F B m1 w1 C m2 w2) : Ext base F A m w C m2 w2 where
  le := h.le.trans k.le
  size := Nat.le_trans h.size k.size
  os := k.os.trans h.os
  tape := k.tape.trans h.tape
  output := k.output.trans h.output
  heap := fun b hb hw => (k.heap b (Nat.lt_of_lt_of_le hb h.size) (fun e => hw (h.wr b hb e))).trans (h.heap b hb hw)
  own := fun b hb hw => h.own b hb (k.own b (Nat.lt_of_lt_of_le hb h.size) hw)
  wr := fun b hb hw => h.wr b hb (k.wr b (Nat.lt_of_lt_of_le hb h.size) hw)
  keep := fun o b s t h1 h2 hb => by
    obtain ⟨s', t', h3, h4⟩ := k.keep o b s t h1 h2 (Nat.lt_of_lt_of_le hb h.size)
    exact h.keep o b s' t' h3 h4 hb
  keepG := fun j hj => (k.keepG j hj).trans (h.keepG j hj)
  nle := Nat.le_trans h.nle k.nle
theorem Rep.ext {base : Nat} {F : Nat → Prop} {A A' : Gh} {m m' : Mem} {w w' : World} (k : Ext base F A m w A' m' w') {v : Value} {a : AVal} (h : Rep A (Own A m F) w v a) : Rep A' (Own A' m' F) w' v a :=
  h.mono k.le (fun b hb hx => k.heap b hb (fun e => hx e.own)) k.own
theorem RepL.ext {base : Nat} {F : Nat → Prop} {A A' : Gh} {m m' : Mem} {w w' : World} (k : Ext base F A m w A' m' w') {v : List Value} {a : List AVal} (h : RepL A (Own A m F) w v a) : RepL A' (Own A' m' F) w' v a :=
  h.mono k.le (fun b hb hx => k.heap b hb (fun e => hx e.own)) k.own
theorem RowRep.mono {A A' : Gh} {X X' : Nat → Prop} {w w' : World} (hA : A.Le A') (hw : ∀ b, b < w.heap.size → ¬ X b → w'.heap[b]? = w.heap[b]?) (hX : ∀ b, b < w.heap.size → X' b → X b) {arr : Array Value} {sz : Nat} {es : List (List AVal)} (h : RowRep A X w arr sz es) : RowRep A' X' w' arr sz es :=
  ⟨h.1, h.2.1, h.2.2.1, fun i e j x h1 h2 => by obtain ⟨hf, u, hu, hr⟩ := h.2.2.2 i e j x h1 h2; exact ⟨hf, u, hu, hr.mono hA hw hX⟩⟩

theorem obj_put (m : Mem) (o o' : OId) (x : AObj) : (m.put o x).obj o' = if o' = o then x else m.obj o' := by
  cases o with
  | loc k => cases o' with
    | loc k' => simp only [Mem.put, Mem.obj, Tbl.get_set, OId.loc.injEq]
    | glob k' => simp [Mem.put, Mem.obj]
  | glob k => cases o' with
    | loc k' => simp [Mem.put, Mem.obj]
    | glob k' => simp only [Mem.put, Mem.obj, Tbl.get_set, OId.glob.injEq]
theorem put_n (m : Mem) (o : OId) (x : AObj) : (m.put o x).gs.n = m.gs.n := by cases o <;> rfl

/-- The ghost with one more place. -/
def Gh.upd (A : Gh) (o : OId) (g : Nat) (x : Nat × Nat × Nat) : Gh := fun o' g' => if o' = o ∧ g' = g then some x else A o' g'
theorem Gh.upd_le {A : Gh} {o : OId} {g : Nat} {x : Nat × Nat × Nat} (h : A o g = none) : A.Le (A.upd o g x) := by
  intro o' g' y hy
  unfold Gh.upd
  split
  · rename_i e; rw [e.1, e.2, h] at hy; cases hy
  · exact hy
theorem Gh.upd_self (A : Gh) (o : OId) (g : Nat) (x : Nat × Nat × Nat) : (A.upd o g x) o g = some x := by simp [Gh.upd]
theorem Gh.upd_other {A : Gh} {o o' : OId} {g g' : Nat} {x : Nat × Nat × Nat} (h : o' ≠ o) : (A.upd o g x) o' g' = A o' g' := by simp [Gh.upd, h]

theorem newObj_spec {env : Env} {A : Gh} {F : Nat → Prop} {w : World} {m : Mem} {H0 N0 : Nat} (h : WOK env A F w m H0 N0) {glob : Bool} {key : Nat} {st : OSt} {o : OId} {g : Nat} {m' : Mem} (hn : newObj glob key m st = (o, g, m')) :
    (∀ o', m'.obj o' = if o' = o then ⟨g, st⟩ else m.obj o') ∧ A o g = none ∧ (∀ g', g < g' → A o g' = none) ∧ ((∃ k, o = .loc k) ∨ (∃ k, o = .glob k ∧ N0 ≤ k)) ∧ m.gs.n ≤ m'.gs.n ∧ (∀ k, m'.gs.n ≤ k → o ≠ .glob k) ∧ (glob = false → m'.gs = m.gs) ∧ (∀ k, o = .glob k → glob = true) ∧ (∀ k, o = .glob k → k = m.gs.n) := by
  unfold newObj at hn
  cases glob with
  | true =>
    simp only [if_true, Prod.mk.injEq] at hn
    obtain ⟨rfl, rfl, rfl⟩ := hn
    refine ⟨fun o' => ?_, (h.gn _ (Nat.le_refl _)).2 0, fun g' _ => (h.gn _ (Nat.le_refl _)).2 g', .inr ⟨_, rfl, h.nle⟩, Nat.le_succ _, fun k hk e => by injection e with e; simp at hk; omega, fun e => (by cases e), fun _ _ => rfl, fun k e => by injection e with e; exact e.symm⟩
    cases o' with
    | loc k => simp [Mem.obj]
    | glob k => simp only [Mem.obj, Tbl.get_set, OId.glob.injEq]
  | false =>
    simp only [Bool.false_eq_true, if_false, Prod.mk.injEq] at hn
    obtain ⟨rfl, rfl, rfl⟩ := hn
    have hg := h.gens (.loc key)
    refine ⟨fun o' => ?_, hg _ (by simp [Mem.obj]), fun g' hg' => hg _ (by simp [Mem.obj]; omega), .inl ⟨_, rfl⟩, Nat.le_refl _, (fun k _ => by intro e; cases e), (fun _ => rfl), (by intro k e; cases e), (by intro k e; cases e)⟩
    cases o' with
    | loc k => simp only [Mem.obj, Tbl.get_set, OId.loc.injEq]
    | glob k => simp [Mem.obj]

theorem alloc_heap (w : World) (ob : Obj) (b : Nat) : (w.alloc ob).heap[b]? = if b = w.heap.size then some ob else w.heap[b]? := by
  show (w.heap.push ob)[b]? = _
  rw [Array.getElem?_push]
theorem alloc_size (w : World) (ob : Obj) : (w.alloc ob).heap.size = w.heap.size + 1 := by
  show (w.heap.push ob).size = _
  simp
theorem A_lt {env : Env} {A : Gh} {F : Nat → Prop} {w : World} {m : Mem} {H0 N0 : Nat} (h : WOK env A F w m H0 N0) {o : OId} {b s t : Nat} (ho : (m.obj o).st ≠ .dead) (hA : A o (m.obj o).gen = some (b, s, t)) : b < w.heap.size := by
  have hob := h.obj o
  unfold ObjOK at hob
  have lt : ∀ {b' : Nat} {x : Obj}, w.heap[b']? = some x → b' < w.heap.size := fun h => (Array.getElem?_eq_some_iff.1 h).1
  cases hst : (m.obj o).st with
  | dead => exact absurd hst ho
  | ro sz es => rw [hst] at hob; obtain ⟨b', arr, t', fr, h1, h2, _⟩ := hob; rw [h1] at hA; cases hA; exact lt h2
  | row sz es => rw [hst] at hob; obtain ⟨b', arr, t', h1, h2, _⟩ := hob; rw [h1] at hA; cases hA; exact lt h2
  | box cs => rw [hst] at hob; obtain ⟨b', arr, t', h1, h2, _⟩ := hob; rw [h1] at hA; cases hA; exact lt h2
theorem owned_live {st : OSt} (h : ownedSt st = true) : st ≠ .dead := by intro e; subst e; simp [ownedSt] at h

/-- A new object in a new block. -/
theorem WOK.new {env : Env} {A : Gh} {F : Nat → Prop} {w : World} {m : Mem} {H0 N0 : Nat} (h : WOK env A F w m H0 N0) (base : Nat) {glob : Bool} {key : Nat} {st : OSt} {o : OId} {g : Nat} {m' : Mem} (hn : newObj glob key m st = (o, g, m')) (hbase : base ≤ m.gs.n)
    (arr : Array Value) (ty : TypeId) (w1 : World) (hw1 : w1.heap = w.heap) (hos : w1.os = w.os ∧ w1.tape = w.tape ∧ w1.output = w.output) (sz : Nat) (hown : ownedSt st = true)
    (hst : match st with
      | .row sz' es => sz' = sz ∧ RowRep A (Own A m F) w arr sz es
      | .box cs => cs.length = sz ∧ arr.size = sz ∧ RepL A (Own A m F) w arr.toList cs ∧ cs.all AVal.isCell = true ∧ (glob = true → cs.all AVal.shared = true)
      | _ => False) :
    ∃ A', A' o g = some (w.heap.size, sz, arr.size) ∧ WOK env A' F (w1.alloc (.cells arr ty)) m' H0 N0 ∧ Ext base F A m w A' m' (w1.alloc (.cells arr ty)) := by
  obtain ⟨hobj, hA0, hA1, hfr, hnle, hnk, hgs, hgl, hgn⟩ := newObj_spec h hn
  have hh : ∀ b, b < w.heap.size → (w1.alloc (.cells arr ty)).heap[b]? = w.heap[b]? := fun b hb => by rw [alloc_heap, hw1, if_neg (by omega)]
  have hnew : (w1.alloc (.cells arr ty)).heap[w.heap.size]? = some (.cells arr ty) := by rw [alloc_heap, hw1, if_pos rfl]
  have hsz : (w1.alloc (.cells arr ty)).heap.size = w.heap.size + 1 := by rw [alloc_size, hw1]
  refine ⟨A.upd o g (w.heap.size, sz, arr.size), Gh.upd_self .., ?_⟩
  have hle : A.Le (A.upd o g (w.heap.size, sz, arr.size)) := Gh.upd_le hA0
  -- an owned object of the new memory is the new one, or an old one
  have hold : ∀ o' b s t, o' ≠ o → (A.upd o g (w.heap.size, sz, arr.size)) o' (m'.obj o').gen = some (b, s, t) → A o' (m.obj o').gen = some (b, s, t) := by
    intro o' b s t ho' hA
    rw [hobj, if_neg ho', Gh.upd_other ho'] at hA
    exact hA
  have hself : ∀ b s t, (A.upd o g (w.heap.size, sz, arr.size)) o (m'.obj o).gen = some (b, s, t) → b = w.heap.size := by
    intro b s t hA
    rw [hobj, if_pos rfl, Gh.upd_self] at hA
    cases hA; rfl
  have hown' : ∀ b, b < w.heap.size → Own (A.upd o g (w.heap.size, sz, arr.size)) m' F b → Own A m F b := by
    rintro b hb (hF | ⟨o', s, t, h1, h2⟩)
    · exact .inl hF
    · by_cases ho' : o' = o
      · subst ho'; have := hself _ _ _ h2; omega
      · rw [hobj, if_neg ho'] at h1
        exact .inr ⟨o', s, t, h1, hold _ _ _ _ ho' h2⟩
  have hext : Ext base F A m w (A.upd o g (w.heap.size, sz, arr.size)) m' (w1.alloc (.cells arr ty)) := {
    le := hle, size := by omega, os := hos.1, tape := hos.2.1, output := hos.2.2, heap := fun b hb _ => hh b hb, own := hown'
    wr := by
      rintro b hb ⟨o', s, t, h1, hm, h2⟩
      by_cases ho' : o' = o
      · subst ho'; have := hself _ _ _ h2; omega
      · rw [hobj, if_neg ho'] at h1
        exact ⟨o', s, t, h1, hm, hold _ _ _ _ ho' h2⟩
    keep := by
      intro o' b s t h1 h2 hb
      by_cases ho' : o' = o
      · subst ho'; have := hself _ _ _ h2; omega
      · rw [hobj, if_neg ho'] at h1
        exact ⟨s, t, h1, hold _ _ _ _ ho' h2⟩
    keepG := by
      intro k hk
      rw [hobj, if_neg]
      intro e
      have := hgn k e.symm
      omega
    nle := hnle }
  refine ⟨?_, hext⟩
  have hmono : ∀ {v : Value} {a : AVal}, Rep A (Own A m F) w v a → Rep (A.upd o g (w.heap.size, sz, arr.size)) (Own (A.upd o g (w.heap.size, sz, arr.size)) m' F) (w1.alloc (.cells arr ty)) v a := fun hr => hr.ext hext
  have hrow : ∀ {arr' : Array Value} {s : Nat} {es : List (List AVal)}, RowRep A (Own A m F) w arr' s es → RowRep (A.upd o g (w.heap.size, sz, arr.size)) (Own (A.upd o g (w.heap.size, sz, arr.size)) m' F) (w1.alloc (.cells arr ty)) arr' s es :=
    fun hr => hr.mono hle (fun b hb hx => hh b hb) hown'
  refine { obj := fun o' => ?_, inj := ?_, sep := ?_, bound := fun b hb => by have := h.bound b hb; omega, gens := ?_, gn := ?_, fresh := ?_, nle := Nat.le_trans h.nle hnle, hle := by have := h.hle; omega, glob := fun gl cs hg => hmono (h.glob gl cs hg) }
  · by_cases ho' : o' = o
    · subst ho'
      rw [hobj, if_pos rfl]
      unfold ObjOK
      cases st with
      | dead => trivial
      | ro _ _ => simp [ownedSt] at hown
      | row sz' es =>
        obtain ⟨rfl, hr⟩ := hst
        exact ⟨w.heap.size, arr, ty, Gh.upd_self .., hnew, hrow hr⟩
      | box cs =>
        obtain ⟨h1, h2, h3, h4, h5⟩ := hst
        refine ⟨w.heap.size, arr, ty, ?_, hnew, h3.ext hext, h4, fun k e => h5 (hgl k e)⟩
        simp only [Gh.upd_self, h1, h2]
    · rw [hobj, if_neg ho']
      have hob := h.obj o'
      unfold ObjOK at hob ⊢
      cases hs : (m.obj o').st with
      | dead => trivial
      | ro s es =>
        rw [hs] at hob
        obtain ⟨b, a', t, fr, h1, h2, h3, h4⟩ := hob
        have hb := (Array.getElem?_eq_some_iff.1 h2).1
        exact ⟨b, a', t, fr, by rw [Gh.upd_other ho']; exact h1, by rw [hh b hb]; exact h2, hrow h3, fun e => h4 (hown' b hb e)⟩
      | row s es =>
        rw [hs] at hob
        obtain ⟨b, a', t, h1, h2, h3⟩ := hob
        have hb := (Array.getElem?_eq_some_iff.1 h2).1
        exact ⟨b, a', t, by rw [Gh.upd_other ho']; exact h1, by rw [hh b hb]; exact h2, hrow h3⟩
      | box cs =>
        rw [hs] at hob
        obtain ⟨b, a', t, h1, h2, h3, h4⟩ := hob
        have hb := (Array.getElem?_eq_some_iff.1 h2).1
        exact ⟨b, a', t, by rw [Gh.upd_other ho']; exact h1, by rw [hh b hb]; exact h2, h3.ext hext, h4⟩
  · intro o1 o2 b s t s' t' h1 h2 h3 h4
    by_cases e1 : o1 = o <;> by_cases e2 : o2 = o
    · rw [e1, e2]
    · exfalso
      subst e1
      rw [hobj, if_neg e2] at h2
      have := hself _ _ _ h3
      have := A_lt h (owned_live h2) (hold _ _ _ _ e2 h4)
      omega
    · exfalso
      subst e2
      rw [hobj, if_neg e1] at h1
      have := hself _ _ _ h4
      have := A_lt h (owned_live h1) (hold _ _ _ _ e1 h3)
      omega
    · rw [hobj, if_neg e1] at h1
      rw [hobj, if_neg e2] at h2
      exact h.inj o1 o2 b s t s' t' h1 h2 (hold _ _ _ _ e1 h3) (hold _ _ _ _ e2 h4)
  · intro o' b s t h1 h2 hF
    by_cases e1 : o' = o
    · subst e1
      have := hself _ _ _ h2
      have := h.bound b hF
      omega
    · rw [hobj, if_neg e1] at h1
      exact h.sep o' b s t h1 (hold _ _ _ _ e1 h2) hF
  · intro o' g' hg
    by_cases e1 : o' = o
    · subst e1
      rw [hobj, if_pos rfl] at hg
      have hg : g < g' := hg
      simp only [Gh.upd]
      rw [if_neg (by intro e; omega)]
      exact hA1 g' hg
    · rw [hobj, if_neg e1] at hg
      rw [Gh.upd_other e1]
      exact h.gens o' g' hg
  · intro k hk
    have hne := hnk k hk
    rw [hobj, if_neg (fun e => hne e.symm)]
    refine ⟨(h.gn k (Nat.le_trans hnle hk)).1, fun g' => ?_⟩
    rw [Gh.upd_other (fun e => hne e.symm)]
    exact (h.gn k (Nat.le_trans hnle hk)).2 g'
  · intro o' hkind b s t hl hA
    by_cases e1 : o' = o
    · subst e1
      rw [hself _ _ _ hA]
      exact h.hle
    · rw [hobj, if_neg e1] at hl
      exact h.fresh o' hkind b s t hl (hold _ _ _ _ e1 hA)
end Go.Abs
