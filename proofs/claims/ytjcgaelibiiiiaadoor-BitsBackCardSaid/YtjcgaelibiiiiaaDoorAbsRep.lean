/-
  THE ABSTRACT INTERPRETER, the relation: what an abstract value says of a concrete one in a world. By this seat's session.
-/
import Derived.Test.YtjcgaelibiiiiaaDoorAbsDef
import Derived.Laws.AppendOwn
import Derived.Below
set_option linter.unusedVariables false
set_option linter.unusedSimpArgs false
namespace Go.Abs

theorem getD_setPad {α : Type} (d : α) : ∀ (l : List α) (k j : Nat) (v : α), (setPad d l k v).getD j d = if j = k then v else l.getD j d
  | [], 0, j, v => by cases j <;> simp [setPad]
  | [], k + 1, j, v => by
    cases j with
    | zero => simp [setPad]
    | succ j => have := getD_setPad d [] k j v; simpa [setPad] using this
  | x :: xs, 0, j, v => by cases j <;> simp [setPad]
  | x :: xs, k + 1, j, v => by
    cases j with
    | zero => simp [setPad]
    | succ j => have := getD_setPad d xs k j v; simpa [setPad] using this
theorem Tbl.get_set {α : Type} (d : α) (t : Tbl α) (k j : Nat) (v : α) : (t.set d k v).get d j = if j = k then v else t.get d j := by
  unfold Tbl.get Tbl.set
  simp only [getD_setPad]
  by_cases h : j / 16 = k / 16
  · rw [if_pos h, getD_setPad]
    by_cases h2 : j % 16 = k % 16
    · rw [if_pos h2, if_pos (by omega)]
    · rw [if_neg h2, if_neg (by intro e; subst e; exact h2 rfl), h]
  · rw [if_neg h, if_neg (by intro e; subst e; exact h rfl)]
theorem Tbl.get_nil {α : Type} (d : α) (j : Nat) : (Tbl.mk ([] : List (List α))).get d j = d := by simp [Tbl.get]

/-- Where each object, in each of its states, lies: the block, the cells of an element, the block's cells. -/
abbrev Gh := OId → Nat → Option (Nat × Nat × Nat)

inductive Rep (A : Gh) (X : Nat → Prop) (w : World) : Value → AVal → Prop where
  | raw (v : Value) : Rep A X w v (.raw v)
  | e0 (a : Option Addr) : Rep A X w (.slice a 0 0) .e0
  | nil (a : Option Addr) (c : Nat) : Rep A X w (.slice a 0 c) (.sl [])
  | sl (ad : Addr) (n c sz : Nat) (es : List (List AVal)) (f : Nat → Nat → Value) (h0 : 0 < sz) (hn : n = es.length) (hc : n ≤ c) (hl : ∀ e ∈ es, e.length = sz)
      (hm : ∀ i e j x, es[i]? = some e → e[j]? = some x → x.fixed = true ∧ ¬ X ad.block ∧ w.cell? (ad.add (i * sz + j)) = some (f i j))
      (hr : ∀ i e j x, es[i]? = some e → e[j]? = some x → Rep A X w (f i j) x) : Rep A X w (.slice (some ad) n c) (.sl es)
  | hs (o : OId) (g lo n c b sz tot : Nat) (hA : A o g = some (b, sz, tot)) (hc : n ≤ c) (ht : (lo + c) * sz ≤ tot) : Rep A X w (.slice (some ⟨b, lo * sz, none⟩) n c) (.hs o g lo n)
  | hp (o : OId) (g i off b sz tot : Nat) (hA : A o g = some (b, sz, tot)) : Rep A X w (.pointer (some ⟨b, i * sz + off, none⟩)) (.hp o g i off)
  | ip (ad : Addr) (cs : List AVal) (f : Nat → Value) (hm : ∀ j x, cs[j]? = some x → x.fixed = true ∧ ¬ X ad.block ∧ w.cell? (ad.add j) = some (f j))
      (hr : ∀ j x, cs[j]? = some x → Rep A X w (f j) x) : Rep A X w (.pointer (some ad)) (.ip cs)
  | clo (g : FuncId) (fs cs : Array Value) (first caps : List AVal) (h1 : fs.size = first.length) (h2 : cs.size = caps.length)
      (r1 : ∀ j x, first[j]? = some x → Rep A X w (fs.getD j undef) x) (r2 : ∀ j x, caps[j]? = some x → Rep A X w (cs.getD j undef) x) : Rep A X w (.func (.func g) fs cs) (.clo g first caps)
  | iface (t : TypeId) (v : Value) (a : AVal) (h : Rep A X w v a) : Rep A X w (.iface t v) (.iface t a)
  | agg (vs : Array Value) (cs : List AVal) (hs : vs.size = cs.length) (hr : ∀ j x, cs[j]? = some x → Rep A X w (vs.getD j undef) x) : Rep A X w (.agg vs) (.agg cs)
  | tup (vs : Array Value) (cs : List AVal) (hs : vs.size = cs.length) (hr : ∀ j x, cs[j]? = some x → Rep A X w (vs.getD j undef) x) : Rep A X w (.tuple vs) (.tup cs)
  | undef (v : Value) : Rep A X w v .undef

/-- The ghost grows. -/
def Gh.Le (A A' : Gh) : Prop := ∀ o g x, A o g = some x → A' o g = some x
theorem Gh.Le.refl (A : Gh) : A.Le A := fun _ _ _ h => h
theorem Gh.Le.trans {A B C : Gh} (h : A.Le B) (k : B.Le C) : A.Le C := fun o g x e => k o g x (h o g x e)

theorem cell_lt {w : World} {a : Addr} {v : Value} (h : w.cell? a = some v) : a.block < w.heap.size := World.block_lt_of_cell? w a h
theorem add_block (a : Addr) (n : Nat) : (a.add n).block = a.block := by unfold Addr.add; split <;> rfl

/-- What is said goes on to be so where the blocks that it looks at stand. -/
theorem Rep.mono {A A' : Gh} {X X' : Nat → Prop} {w w' : World} (hA : A.Le A') (hw : ∀ b, b < w.heap.size → ¬ X b → w'.heap[b]? = w.heap[b]?) (hX : ∀ b, b < w.heap.size → X' b → X b) {v : Value} {a : AVal} (h : Rep A X w v a) : Rep A' X' w' v a := by
  have keep : ∀ (ad : Addr) (k : Nat) (u : Value), ¬ X ad.block ∧ w.cell? (ad.add k) = some u → ¬ X' ad.block ∧ w'.cell? (ad.add k) = some u := by
    intro ad k u ⟨h1, h2⟩
    have hlt : ad.block < w.heap.size := by simpa [add_block] using cell_lt h2
    refine ⟨fun h => h1 (hX _ hlt h), ?_⟩
    rw [← h2]
    exact World.cell?_of_block (by rw [add_block]; exact hw _ hlt h1)
  induction h with
  | raw v => exact .raw v
  | e0 a => exact .e0 a
  | nil a c => exact .nil a c
  | sl ad n c sz es f h0 hn hc hl hm hr ih => exact .sl ad n c sz es f h0 hn hc hl (fun i e j x h1 h2 => ⟨(hm i e j x h1 h2).1, keep _ _ _ (hm i e j x h1 h2).2⟩) ih
  | hs o g lo n c b sz tot h hc ht => exact .hs o g lo n c b sz tot (hA _ _ _ h) hc ht
  | hp o g i off b sz tot h => exact .hp o g i off b sz tot (hA _ _ _ h)
  | ip ad cs f hm hr ih => exact .ip ad cs f (fun j x h1 => ⟨(hm j x h1).1, keep _ _ _ (hm j x h1).2⟩) ih
  | clo g fs cs first caps h1 h2 r1 r2 ih1 ih2 => exact .clo g fs cs first caps h1 h2 ih1 ih2
  | iface t v a h ih => exact .iface t v a ih
  | agg vs cs hs hr ih => exact .agg vs cs hs ih
  | tup vs cs hs hr ih => exact .tup vs cs hs ih
  | undef v => exact .undef v

/-- What is never written again says the same whatever the ghost. -/
theorem Rep.fixed_any {A A' : Gh} {X : Nat → Prop} {w : World} {v : Value} {a : AVal} (h : Rep A X w v a) : a.fixed = true → Rep A' X w v a := by
  induction h with
  | raw v => exact fun _ => .raw v
  | e0 a => intro h; simp [AVal.fixed] at h
  | nil a c => exact fun _ => .nil a c
  | sl ad n c sz es f h0 hn hc hl hm hr ih => exact fun _ => .sl ad n c sz es f h0 hn hc hl hm (fun i e j x h1 h2 => ih i e j x h1 h2 (hm i e j x h1 h2).1)
  | hs o g lo n c b sz tot h hc ht => intro h; simp [AVal.fixed] at h
  | hp o g i off b sz tot h => intro h; simp [AVal.fixed] at h
  | ip ad cs f hm hr ih => exact fun _ => .ip ad cs f hm (fun j x h1 => ih j x h1 (hm j x h1).1)
  | clo g fs cs first caps h1 h2 r1 r2 ih1 ih2 => intro h; simp [AVal.fixed] at h
  | iface t v a h ih =>
    intro hf
    refine .iface t v a (ih ?_)
    cases a <;> simp_all [AVal.fixed]
  | agg vs cs hs hr ih => intro h; simp [AVal.fixed] at h
  | tup vs cs hs hr ih => intro h; simp [AVal.fixed] at h
  | undef v => intro h; simp [AVal.fixed] at h

/-- Lists of values. -/
def RepL (A : Gh) (X : Nat → Prop) (w : World) (vs : List Value) (cs : List AVal) : Prop := vs.length = cs.length ∧ ∀ j x, cs[j]? = some x → Rep A X w (vs.getD j Go.undef) x
theorem RepL.nil {A : Gh} {X : Nat → Prop} {w : World} : RepL A X w [] [] := ⟨rfl, fun j x h => by simp at h⟩
theorem RepL.cons {A : Gh} {X : Nat → Prop} {w : World} {v : Value} {a : AVal} {vs : List Value} {cs : List AVal} (h : Rep A X w v a) (t : RepL A X w vs cs) : RepL A X w (v :: vs) (a :: cs) := by
  refine ⟨by simp [t.1], fun j x hx => ?_⟩
  cases j with
  | zero => simp at hx; subst hx; simpa using h
  | succ j => simp at hx; simpa using t.2 j x hx
theorem RepL.mono {A A' : Gh} {X X' : Nat → Prop} {w w' : World} (hA : A.Le A') (hw : ∀ b, b < w.heap.size → ¬ X b → w'.heap[b]? = w.heap[b]?) (hX : ∀ b, b < w.heap.size → X' b → X b) {vs : List Value} {cs : List AVal} (h : RepL A X w vs cs) : RepL A' X' w' vs cs :=
  ⟨h.1, fun j x hx => (h.2 j x hx).mono hA hw hX⟩
theorem RepL.head {A : Gh} {X : Nat → Prop} {w : World} {v : Value} {a : AVal} {vs : List Value} {cs : List AVal} (h : RepL A X w (v :: vs) (a :: cs)) : Rep A X w v a := by simpa using h.2 0 a (by simp)
theorem RepL.tail {A : Gh} {X : Nat → Prop} {w : World} {v : Value} {a : AVal} {vs : List Value} {cs : List AVal} (h : RepL A X w (v :: vs) (a :: cs)) : RepL A X w vs cs :=
  ⟨by simpa using h.1, fun j x hx => by simpa using h.2 (j + 1) x (by simpa using hx)⟩
theorem RepL.take {A : Gh} {X : Nat → Prop} {w : World} {vs : List Value} {cs : List AVal} (h : RepL A X w vs cs) (n : Nat) : RepL A X w (vs.take n) (cs.take n) := by
  refine ⟨by simp [h.1], fun j x hx => ?_⟩
  rw [List.getElem?_take] at hx
  split at hx
  · rename_i hj
    have := h.2 j x hx
    have hj' : j < vs.length := by rw [h.1]; exact (List.getElem?_eq_some_iff.1 hx).1
    simpa [List.getD_eq_getElem?_getD, List.getElem?_take, hj] using this
  · cases hx
theorem RepL.drop {A : Gh} {X : Nat → Prop} {w : World} {vs : List Value} {cs : List AVal} (h : RepL A X w vs cs) (n : Nat) : RepL A X w (vs.drop n) (cs.drop n) := by
  refine ⟨by simp [h.1], fun j x hx => ?_⟩
  rw [List.getElem?_drop] at hx
  have := h.2 _ x hx
  simpa [List.getD_eq_getElem?_getD, List.getElem?_drop] using this
theorem RepL.append {A : Gh} {X : Nat → Prop} {w : World} {vs us : List Value} {cs ds : List AVal} (h : RepL A X w vs cs) (k : RepL A X w us ds) : RepL A X w (vs ++ us) (cs ++ ds) := by
  refine ⟨by simp [h.1, k.1], fun j x hx => ?_⟩
  rcases Nat.lt_or_ge j cs.length with hj | hj
  · rw [List.getElem?_append_left hj] at hx
    have := h.2 j x hx
    simpa [List.getD_eq_getElem?_getD, List.getElem?_append_left (h.1 ▸ hj : j < vs.length)] using this
  · rw [List.getElem?_append_right hj] at hx
    have := k.2 _ x hx
    simpa [List.getD_eq_getElem?_getD, List.getElem?_append_right (h.1 ▸ hj : vs.length ≤ j), h.1] using this

theorem Rep.one {A : Gh} {X : Nat → Prop} {w : World} {u : Value} {x : AVal} (hx : Rep A X w u x) (hc : x.isCell = true) : u.oneCell' = true := by
  cases hx with
  | raw => cases u <;> simp_all [AVal.isCell, rawCell, Value.oneCell']
  | agg vs cs hs hr => simp [AVal.isCell] at hc
  | tup vs cs hs hr => simp [AVal.isCell] at hc
  | undef v => simp [AVal.isCell] at hc
  | _ => rfl
theorem cells_one {u : Value} (h : u.oneCell' = true) : u.cells = #[u] := by cases u <;> simp_all [Value.oneCell', Value.cells]
/-- A value's cells. -/
theorem Rep.cells {A : Gh} {X : Nat → Prop} {w : World} {v : Value} {a : AVal} (h : Rep A X w v a) (hu : a.cells.all AVal.isCell = true) : RepL A X w v.cells.toList a.cells ∧ (∀ u ∈ v.cells.toList, u.oneCell' = true) := by
  by_cases hag : ∃ cs, a = .agg cs
  · obtain ⟨cs, rfl⟩ := hag
    cases h with
    | agg vs cs hs hr =>
      simp only [AVal.cells] at hu ⊢
      refine ⟨⟨by simpa [Value.cells] using hs, fun j x hx => by simpa [Value.cells] using hr j x hx⟩, fun u hmem => ?_⟩
      simp only [Value.cells] at hmem
      obtain ⟨j, hj, rfl⟩ := List.getElem_of_mem hmem
      have hj' : j < cs.length := by rw [← hs]; simpa using hj
      have := hr j cs[j] (by simp [List.getElem?_eq_getElem hj'])
      have hcell := (List.all_eq_true.1 hu) cs[j] (List.getElem_mem _)
      have h1 := this.one hcell
      have hj2 : j < vs.size := by rw [hs]; exact hj'
      simpa [Array.getElem?_eq_getElem hj2] using h1
  · have hc : a.cells = [a] := by cases a <;> first | rfl | exact absurd ⟨_, rfl⟩ hag
    rw [hc] at hu ⊢
    simp only [List.all_cons, List.all_nil, Bool.and_true] at hu
    have h1 := h.one hu
    rw [cells_one h1]
    exact ⟨RepL.cons h .nil, fun u hm => by simp at hm; subst hm; exact h1⟩
end Go.Abs
