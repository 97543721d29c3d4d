/-
  THE ABSTRACT INTERPRETER: stores, appends, new objects. By this seat's session.
-/
import Derived.Test.YtjcgaelibiiiiaaDoorAbsOpA
set_option linter.unusedVariables false
set_option linter.unusedSimpArgs false
namespace Go.Abs

theorem splice_get {α : Type} (l vs : List α) (k q : Nat) (h : k ≤ l.length) : (l.take k ++ vs ++ l.drop (k + vs.length))[q]? = if q < k then l[q]? else if q < k + vs.length then vs[q - k]? else l[q]? := by
  by_cases h1 : q < k
  · rw [if_pos h1, List.append_assoc, List.getElem?_append_left (by simp; omega), List.getElem?_take, if_pos h1]
  · rw [if_neg h1, List.append_assoc, List.getElem?_append_right (by simp; omega)]
    have e : (l.take k).length = k := by simp; omega
    rw [e]
    by_cases h2 : q < k + vs.length
    · rw [if_pos h2, List.getElem?_append_left (by omega)]
    · rw [if_neg h2, List.getElem?_append_right (by omega), List.getElem?_drop]
      congr 1; omega
theorem splice_spec {cs new cs' : List AVal} {off : Nat} (h : splice cs off new = some cs') : off + new.length ≤ cs.length ∧ cs'.length = cs.length ∧ ∀ j, cs'[j]? = if j < off then cs[j]? else if j < off + new.length then new[j - off]? else cs[j]? := by
  unfold splice at h
  split at h
  · rename_i hle
    cases h
    exact ⟨hle, by simp; omega, fun j => splice_get _ _ _ _ (by omega)⟩
  · cases h
theorem RepL.splice {A : Gh} {X : Nat → Prop} {w : World} {vs us : List Value} {cs ds cs' : List AVal} (h : RepL A X w vs cs) (k : RepL A X w us ds) {off : Nat} (hs : splice cs off ds = some cs') : RepL A X w (vs.take off ++ us ++ vs.drop (off + us.length)) cs' := by
  obtain ⟨hle, hl, hg⟩ := splice_spec hs
  have hku := k.1
  have hhl := h.1
  refine ⟨by simp; omega, fun j x hx => ?_⟩
  rw [hg] at hx
  rw [List.getD_eq_getElem?_getD, splice_get _ _ _ _ (by omega)]
  split at hx
  · rename_i h1; rw [if_pos h1]; simpa [List.getD_eq_getElem?_getD] using h.2 j x hx
  · rename_i h1
    rw [if_neg h1]
    split at hx
    · rename_i h2; rw [if_pos (by omega)]; simpa [List.getD_eq_getElem?_getD] using k.2 _ x hx
    · rename_i h2; rw [if_neg (by omega)]; simpa [List.getD_eq_getElem?_getD] using h.2 j x hx

theorem all_get {α : Type} {p : α → Bool} {l : List α} (h : l.all p = true) {j : Nat} {x : α} (hx : l[j]? = some x) : p x = true := (List.all_eq_true.1 h) x (List.mem_of_getElem? hx)
theorem fixed_isCell {a : AVal} (h : a.fixed = true) : a.isCell = true := by cases a <;> simp_all [AVal.fixed, AVal.isCell]
theorem shared_isCell {a : AVal} (h : a.shared = true) : a.isCell = true := by cases a <;> simp_all [AVal.shared, AVal.isCell]
theorem all_imp {α : Type} {p q : α → Bool} (h : ∀ x, p x = true → q x = true) {l : List α} (k : l.all p = true) : l.all q = true := List.all_eq_true.2 fun x hx => h x (List.all_eq_true.1 k x hx)
theorem RepL.one {A : Gh} {X : Nat → Prop} {w : World} {vs : List Value} {cs : List AVal} (h : RepL A X w vs cs) (hc : cs.all AVal.isCell = true) : ∀ u ∈ vs, u.oneCell' = true := by
  intro u hu
  obtain ⟨j, hj, rfl⟩ := List.getElem_of_mem hu
  have hj' : j < cs.length := by rw [← h.1]; exact hj
  have := h.2 j cs[j] (List.getElem?_eq_getElem hj')
  have h1 := this.one (all_get hc (List.getElem?_eq_getElem hj'))
  simpa [List.getD_eq_getElem?_getD, List.getElem?_eq_getElem hj] using h1
/-- Any cells stored at a place of a row. -/
theorem RowRep.stored {A : Gh} {X : Nat → Prop} {w : World} {arr : Array Value} {sz : Nat} {es : List (List AVal)} (h : RowRep A X w arr sz es) {i off : Nat} {e e' new : List AVal} (he : es[i]? = some e) (hs : splice e off new = some e') {us : List Value} (hu : RepL A X w us new) (hf : new.all AVal.fixed = true) :
    RowRep A X w (arr.toList.take (i * sz + off) ++ us ++ arr.toList.drop (i * sz + off + us.length)).toArray sz (es.set i e') := by
  obtain ⟨h0, h1, h2, h3⟩ := h
  obtain ⟨hle, hl, hg⟩ := splice_spec hs
  have hez := h2 e (List.mem_of_getElem? he)
  have hi : i < es.length := (List.getElem?_eq_some_iff.1 he).1
  have hul := hu.1
  have hub : (i + 1) * sz ≤ arr.size := Nat.le_trans (Nat.mul_le_mul_right _ hi) h1
  rw [Nat.add_mul] at hub
  refine ⟨h0, ?_, ?_, ?_⟩
  · simp only [List.length_set, List.size_toArray, List.length_append, List.length_take, List.length_drop, Array.length_toList]
    omega
  · intro d hd
    rcases List.mem_or_eq_of_mem_set hd with hd | rfl
    · exact h2 d hd
    · rw [hl]; exact hez
  · intro i' d j x hd hx
    have hget : ∀ q, (arr.toList.take (i * sz + off) ++ us ++ arr.toList.drop (i * sz + off + us.length)).toArray[q]? = if q < i * sz + off then arr[q]? else if q < i * sz + off + us.length then us[q - (i * sz + off)]? else arr[q]? := by
      intro q
      rw [List.getElem?_toArray, splice_get _ _ _ _ (by simp; omega)]
      simp
    rw [hget]
    by_cases hii : i' = i
    · subst hii
      rw [List.getElem?_set_self hi] at hd
      cases hd
      rw [hg] at hx
      split at hx
      · rename_i hj
        rw [if_pos (by omega)]
        exact h3 i' e j x he hx
      · rename_i hj
        rw [if_neg (by omega)]
        split at hx
        · rename_i hj2
          rw [if_pos (by omega)]
          have hx' := hu.2 _ x hx
          have hlt : j - off < us.length := by omega
          refine ⟨all_get hf hx, us[j - off], ?_, ?_⟩
          · rw [show i' * sz + j - (i' * sz + off) = j - off by omega]
            exact List.getElem?_eq_getElem hlt
          · simpa [List.getD_eq_getElem?_getD, List.getElem?_eq_getElem hlt] using hx'
        · rename_i hj2
          rw [if_neg (by omega)]
          exact h3 i' e j x he hx
    · rw [List.getElem?_set_ne (Ne.symm hii)] at hd
      have hdz := h2 d (List.mem_of_getElem? hd)
      have hjd : j < d.length := (List.getElem?_eq_some_iff.1 hx).1
      have hout : i' * sz + j < i * sz + off ∨ i * sz + off + us.length ≤ i' * sz + j := by
        rcases Nat.lt_or_gt_of_ne hii with hlt | hgt
        · left
          have := Nat.mul_le_mul_right sz (show i' + 1 ≤ i from hlt)
          rw [Nat.add_mul] at this
          omega
        · right
          have := Nat.mul_le_mul_right sz (show i + 1 ≤ i' from hgt)
          rw [Nat.add_mul] at this
          omega
      rcases hout with ho | ho
      · rw [if_pos ho]; exact h3 i' d j x hd hx
      · rw [if_neg (by omega), if_neg (by omega)]; exact h3 i' d j x hd hx

/-- A store through a pointer. -/
theorem write_spec {P : Program} {env : Env} {A : Gh} {F : Nat → Prop} {w : World} {m m' : Mem} {H0 N0 : Nat} (h : WOK env A F w m H0 N0) (base : Nat) {o : OId} {g i off : Nat} {new : List AVal} (hw : m.write base o g i off new = some m') {b sz tot : Nat} (hA : A o g = some (b, sz, tot))
    {us : List Value} (hu : RepL A (Own A m F) w us new) :
    ∃ w', (storeCells ⟨b, i * sz + off, none⟩ us).run P w = .ok () w' ∧ WOK env A F w' m' H0 N0 ∧ Ext base F A m w A m' w' := by
  unfold Mem.write at hw
  simp only at hw
  split at hw
  · rename_i hg
    simp only [Bool.and_eq_true, decide_eq_true_eq] at hg
    obtain ⟨hg, hmw⟩ := hg
    split at hw
    · rename_i hst0
      obtain ⟨⟨new', m1⟩, hf, hw⟩ := Option.bind_eq_some_iff.1 hw
      obtain ⟨h1, h2, h3, h4⟩ := frzL_spec base us new new' m m1 h hu hf
      simp only at hw
      split at hw
      · rename_i hg1
        split at hw
        · rename_i sz' es hst
          obtain ⟨e, he, hw⟩ := Option.bind_eq_some_iff.1 hw
          obtain ⟨e', hs, rfl⟩ := Option.map_eq_some_iff.1 hw
          have hob := h1.obj o
          unfold ObjOK at hob
          rw [hst] at hob
          obtain ⟨b', arr, t, k1, k2, k3⟩ := hob
          rw [hg1, hA] at k1
          simp only [Option.some.injEq, Prod.mk.injEq] at k1
          obtain ⟨rfl, rfl, rfl⟩ := k1
          have hst' := k3.stored he hs h3 h4
          have hi : i < es.length := (List.getElem?_eq_some_iff.1 he).1
          have hle := (splice_spec hs).1
          have hez := k3.2.2.1 e (List.mem_of_getElem? he)
          have hub : (i + 1) * sz ≤ arr.size := Nat.le_trans (Nat.mul_le_mul_right _ hi) k3.2.1
          rw [Nat.add_mul] at hub
          have hul := h3.1
          have hrun := run_storeCells_at P b (i * sz + off) t us 0 arr w k2 (by omega) (h3.one (all_imp (fun _ => fixed_isCell) h4))
          simp only [Nat.add_zero] at hrun
          refine ⟨_, hrun, ?_⟩
          have hch := h1.change base o (by rw [hst]; rfl) hmw A ⟨g, .row sz (es.set i e')⟩ (w.setRow b (arr.toList.take (i * sz + off) ++ us ++ arr.toList.drop (i * sz + off + us.length)).toArray) (.inl ⟨rfl, hg1.symm⟩)
            (by simp [World.setRow]) ⟨rfl, rfl, rfl⟩ (fun b1 _ hne => setRow_other w b b1 _ (fun e1 => hne sz arr.size (by rw [hg1, e1]; exact hA))) (fun _ b1 s1 t1 hA1 => .inl ⟨s1, t1, by rw [hg1]; exact hA1⟩)
            (fun hext => by
              unfold ObjOK
              refine ⟨b, _, t, ?_, setRow_heap w b arr _ t (0, 0) k2, hst'.mono hext.le (fun b1 hb1 hx => hext.heap b1 hb1 (fun e1 => hx e1.own)) hext.own⟩
              have : (arr.toList.take (i * sz + off) ++ us ++ arr.toList.drop (i * sz + off + us.length)).toArray.size = arr.size := by simp; omega
              rw [this]; exact hA)
          exact ⟨hch.1, h2.trans hch.2⟩
        · cases hw
      · cases hw
    · rename_i cs hst
      split at hw
      · rename_i hi
        subst hi
        have hob := h.obj o
        unfold ObjOK at hob
        rw [hst] at hob
        obtain ⟨b', arr, t, k1, k2, k3, k4, k5⟩ := hob
        rw [hg, hA] at k1
        simp only [Option.some.injEq, Prod.mk.injEq] at k1
        obtain ⟨rfl, rfl, rfl⟩ := k1
        have main : ∀ cs', splice cs off new = some cs' → new.all AVal.isCell = true → (∀ k, o = .glob k → new.all AVal.shared = true) → m' = m.put o ⟨g, .box cs'⟩ →
            ∃ w', (storeCells ⟨b, 0 * cs.length + off, none⟩ us).run P w = .ok () w' ∧ WOK env A F w' m' H0 N0 ∧ Ext base F A m w A m' w' := by
          rintro cs' hs hcell hsh rfl
          obtain ⟨hle, hl, hget⟩ := splice_spec hs
          have hul := hu.1
          have hal : arr.size = cs.length := by simpa using k3.1
          have hrun := run_storeCells_at P b off t us 0 arr w k2 (by omega) (hu.one hcell)
          simp only [Nat.add_zero] at hrun
          rw [Nat.zero_mul, Nat.zero_add]
          refine ⟨_, hrun, ?_⟩
          exact h.change base o (by rw [hst]; rfl) hmw A ⟨g, .box cs'⟩ (w.setRow b (arr.toList.take off ++ us ++ arr.toList.drop (off + us.length)).toArray) (.inl ⟨rfl, hg.symm⟩)
            (by simp [World.setRow]) ⟨rfl, rfl, rfl⟩ (fun b1 _ hne => setRow_other w b b1 _ (fun e1 => hne cs.length cs.length (by rw [hg, e1]; exact hA))) (fun _ b1 s1 t1 hA1 => .inl ⟨s1, t1, by rw [hg]; exact hA1⟩)
            (fun hext => by
              unfold ObjOK
              refine ⟨b, _, t, by rw [hl]; exact hA, setRow_heap w b arr _ t (0, 0) k2, (k3.splice hu hs).ext hext, ?_, ?_⟩
              · refine List.all_eq_true.2 fun x hx => ?_
                obtain ⟨j, hj, rfl⟩ := List.getElem_of_mem hx
                have hx' := hget j
                rw [List.getElem?_eq_getElem hj] at hx'
                split at hx'
                · exact all_get k4 hx'.symm
                · split at hx'
                  · exact all_get hcell hx'.symm
                  · exact all_get k4 hx'.symm
              · intro k hk
                refine List.all_eq_true.2 fun x hx => ?_
                obtain ⟨j, hj, rfl⟩ := List.getElem_of_mem hx
                have hx' := hget j
                rw [List.getElem?_eq_getElem hj] at hx'
                split at hx'
                · exact all_get (k5 k hk) hx'.symm
                · split at hx'
                  · exact all_get (hsh k hk) hx'.symm
                  · exact all_get (k5 k hk) hx'.symm)
        split at hw
        · split at hw
          · rename_i hc
            obtain ⟨cs', hs, e⟩ := Option.map_eq_some_iff.1 hw
            exact main cs' hs hc (fun k e => by cases e) e.symm
          · cases hw
        · split at hw
          · rename_i hc
            obtain ⟨cs', hs, e⟩ := Option.map_eq_some_iff.1 hw
            exact main cs' hs (all_imp (fun _ => shared_isCell) hc) (fun k _ => hc) e.symm
          · cases hw
      · cases hw
    · cases hw
  · cases hw
end Go.Abs
