/-
  slices.Clone's and slices.Sort's contracts, as the abstract interpreter takes them. By this seat's session.
-/
import Derived.Test.YtjcgaelibiiiiaaDoorW0
import Derived.Test.YtjcgaelibiiiiaaDoorShelf
set_option linter.unusedVariables false
set_option linter.unusedSimpArgs false
namespace Go.Proofs.YtjcgaelibiiiiaaDoor
open Go.Abs Go.RowKit Go.Shelf Go.Proofs

theorem insI_perm (z : Int) : ∀ l, (insI z l).Perm (z :: l)
  | [] => .refl _
  | y :: l => by
    unfold insI
    split
    · exact .refl _
    · exact ((insI_perm z l).cons y).trans (.swap z y l)
theorem sortI_perm : ∀ l, (sortI l).Perm l
  | [] => .refl _
  | z :: l => (insI_perm z (sortI l)).trans ((sortI_perm l).cons z)
theorem insI_sorted (z : Int) : ∀ l, l.Pairwise (· ≤ ·) → (insI z l).Pairwise (· ≤ ·)
  | [], _ => by simp [insI]
  | y :: l, h => by
    obtain ⟨h1, h2⟩ := List.pairwise_cons.1 h
    unfold insI
    split
    · rename_i hz
      refine List.pairwise_cons.2 ⟨fun a ha => ?_, h⟩
      rcases List.mem_cons.1 ha with rfl | ha
      · exact hz
      · exact Int.le_trans hz (h1 a ha)
    · rename_i hz
      refine List.pairwise_cons.2 ⟨fun a ha => ?_, insI_sorted z l h2⟩
      rcases List.mem_cons.1 ((insI_perm z l).mem_iff.1 ha) with rfl | ha
      · omega
      · exact h1 a ha
theorem sortI_sorted : ∀ l, (sortI l).Pairwise (· ≤ ·)
  | [] => .nil
  | z :: l => insI_sorted z _ (sortI_sorted l)
theorem sorted_unique : ∀ (a b : List Int), a.Pairwise (· ≤ ·) → b.Pairwise (· ≤ ·) → a.Perm b → a = b
  | [], b, _, _, h => by simpa using h.symm.eq_nil
  | x :: a, [], _, _, h => by simpa using h.eq_nil
  | x :: a, y :: b, ha, hb, h => by
    obtain ⟨a1, a2⟩ := List.pairwise_cons.1 ha
    obtain ⟨b1, b2⟩ := List.pairwise_cons.1 hb
    have hxy : x = y := by
      have h1 : x ∈ y :: b := h.mem_iff.1 (by simp)
      have h2 : y ∈ x :: a := h.mem_iff.2 (by simp)
      rcases List.mem_cons.1 h1 with e | h1
      · exact e
      · rcases List.mem_cons.1 h2 with e | h2
        · exact e.symm
        · have := a1 y h2
          have := b1 x h1
          omega
    subst hxy
    rw [sorted_unique a b a2 b2 (List.Perm.cons_inv h)]
theorem sortI_merge (l : List Int) : (l.mergeSort fun x y => decide (x ≤ y)) = sortI l := by
  refine sorted_unique _ _ ?_ (sortI_sorted l) ((List.mergeSort_perm l _).trans (sortI_perm l).symm)
  have := List.pairwise_mergeSort (le := fun x y : Int => decide (x ≤ y)) (fun a b c h1 h2 => by simp at *; omega) (fun a b => by simp; omega) l
  exact this.imp (by simp)
theorem sortI_len (l : List Int) : (sortI l).length = l.length := (sortI_perm l).length_eq
variable {x : ExtF}
theorem wok_conv {x y : ExtF} {A : Gh} {F : Nat → Prop} {w : World} {m : Mem} {H0 N0 : Nat} (h : WOK (EX x) A F w m H0 N0) : WOK (EX y) A F w m H0 N0 :=
  { obj := h.obj, inj := h.inj, sep := h.sep, bound := h.bound, gens := h.gens, gn := h.gn, fresh := h.fresh, nle := h.nle, hle := h.hle, glob := h.glob }
theorem post_conv {x y : ExtF} {eff : Bool} {base : Nat} {A : Gh} {F : Nat → Prop} {w w' : World} {gs gs' : GS} {rs : List RV} {v : Value} (h : CallPost (EX x) eff base A F w gs rs gs' v w') : CallPost (EX y) eff base A F w gs rs gs' v w' := by
  obtain ⟨A', B, vs, h1, h2, h3, h4, h5, h6, h7, h8⟩ := h
  exact ⟨A', B, vs, h1, h2, h3, wok_conv h4, h5, h6, h7, h8⟩
/-- What a call leaves that only adds to the heap, and answers nothing's row. -/
theorem post_nil {x : ExtF} {A : Gh} {F : Nat → Prop} {w w' : World} {gs : GS} (h : WOK (EX x) A F w ⟨noL, gs⟩ w.heap.size gs.n) (hloc : ∀ k g, A (.loc k) g = none) (hb : Below w.heap.size w w') {base : Nat} {v : Value}
    (hv : ∃ a c, v = .slice a 0 c) : CallPost (EX x) false base A F w gs [.v (.sl [])] gs v w' := by
  obtain ⟨h1, h2⟩ := h.world base hb.size (fun b hlt => hb.block b hlt) ⟨hb.os, hb.tape, hb.output⟩
  obtain ⟨a, c, rfl⟩ := hv
  refine ⟨A, [], [_], rfl, hloc, h2, by simpa using h1, by simp, List.nodup_nil, .v _ _ _ _ _ (.nil _ _) .nil, rfl⟩
/-- Sound for one function. -/
def SoundAt (env : Env) (g : FuncId) (k : List AVal → Nat → GS → Option (List RV × GS)) : Prop :=
  ∀ args base gs rs gs', k args base gs = some (rs, gs') → args.all argOK = true → base ≤ gs.n → (env.eff g = false → base = gs.n) →
    (∃ fn, env.funcs g = some fn ∧ fn.body.isSome = true) ∧
    ∀ A F w vargs, (∀ k g, A (.loc k) g = none) → WOK env A F w ⟨noL, gs⟩ w.heap.size gs.n → RepL A (Abs.Own A ⟨noL, gs⟩ F) w vargs args →
      Calls Tryd.prog g vargs.toArray w fun e w' => ∃ v, e = .returned v ∧ CallPost env (env.eff g) base A F w gs rs gs' v w'
theorem ext0_ok' : ExtOK Tryd.prog (EX fun _ => none) := by
  intro g args base gs rs gs' h
  exact absurd h (by simp [EX, envOf, marksX])
theorem env_ok' (x : ExtF) : EnvOK Tryd.prog (EX x) := envOf_ok (by kernel_rfl)
theorem clone_sound : SoundAt (EX x) 39 cloneF := by
  intro args base gs rs gs' h hargs hbase heff
  unfold cloneF at h
  split at h
  · rename_i es
    obtain ⟨zs, hzs, h2⟩ := Option.bind_eq_some_iff.1 h
    obtain rfl := ints64_map _ _ hzs
    split at h2
    · rename_i hl
      match zs with
      | [] =>
        simp [cellsOfI] at h2
        obtain ⟨rfl, rfl⟩ := h2
        refine ⟨⟨Tryd.f39, by kernel_rfl, by kernel_rfl⟩, fun A F w vargs hloc hW hr => ?_⟩
        obtain ⟨v, rfl⟩ : ∃ v, vargs = [v] := by
          match vargs, hr.1 with
          | [v], _ => exact ⟨v, rfl⟩
        obtain ⟨sa, cap, hv, hlc⟩ := hr.head.sl_inv
        subst hv
        show Calls Tryd.prog 39 #[.slice sa 0 cap] w _
        cases sa with
        | none =>
          refine (Tryd.slices_Clone_int_nil 0 cap w).mono ?_
          rintro e w' ⟨rfl, rfl⟩
          exact ⟨_, rfl, post_nil hW hloc (Below.refl _ _) ⟨none, 0, rfl⟩⟩
        | some a =>
          refine (Tryd.slices_Clone_int_zero a cap w).mono ?_
          rintro e w' ⟨v', rfl, ho, _, hb⟩
          refine ⟨_, rfl, post_nil hW hloc hb ?_⟩
          rcases ho.2 with ⟨h1, h0⟩ | ⟨g, c2, cur, h1, _⟩
          · exact ⟨none, 0, h1⟩
          · exact ⟨_, _, h1⟩
      | z :: zs =>
        obtain ⟨n, hn⟩ := ev_clone (x := fun _ => none) rfl z zs (by simp at hl; omega) base gs
        have e : rowRV 1 (cellsOfI (z :: zs)) = .row 1 (cellsOfI (z :: zs)) := rfl
        rw [e] at hn
        have h2' : ([RV.row 1 (cellsOfI (z :: zs))], gs) = (rs, gs') := by simpa [cellsOfI] using h2
        cases h2'
        obtain ⟨q1, q2⟩ := call_sound (env_ok' _) ext0_ok' n 39 _ base gs _ _ hn hargs hbase heff
        exact ⟨q1, fun A F w vargs hloc hW hr => (q2 A F w vargs hloc (wok_conv hW) hr).mono fun e w' ⟨v, h1, h2⟩ => ⟨v, h1, post_conv h2⟩⟩
    · cases h2
  · cases h
theorem sort_sound : SoundAt (EX x) 40 sortF := by
  intro args base gs rs gs' h hargs hbase heff
  unfold sortF at h
  split at h
  · cases h
    refine ⟨⟨Tryd.f40, by kernel_rfl, by kernel_rfl⟩, fun A F w vargs hloc hW hr => ?_⟩
    obtain ⟨v, rfl⟩ : ∃ v, vargs = [v] := by
      match vargs, hr.1 with
      | [v], _ => exact ⟨v, rfl⟩
    obtain ⟨sa, cap, hv, hlc⟩ := hr.head.sl_inv
    subst hv
    refine (Tryd.slices_Sort_int_none sa cap w).mono ?_
    rintro e w' ⟨rfl, rfl⟩
    exact ⟨_, rfl, A, [], [], rfl, hloc, .refl .., by simpa using hW, by simp, List.nodup_nil, .nil, rfl⟩
  · rename_i n g k
    simp only at h
    split at h
    · rename_i hc
      simp only [Bool.and_eq_true, decide_eq_true_eq] at hc
      obtain ⟨hgen, hbn⟩ := hc
      split at h
      · rename_i es hst
        split at h
        · rename_i hlen
          simp only [Bool.and_eq_true, decide_eq_true_eq] at hlen
          obtain ⟨hlen, hk⟩ := hlen
          obtain ⟨zs, hzs, h2⟩ := Option.map_eq_some_iff.1 h
          obtain rfl := ints64_map _ _ hzs
          cases h2
          refine ⟨⟨Tryd.f40, by kernel_rfl, by kernel_rfl⟩, fun A F w vargs hloc hW hr => ?_⟩
          obtain ⟨v, rfl⟩ : ∃ v, vargs = [v] := by
            match vargs, hr.1 with
            | [v], _ => exact ⟨v, rfl⟩
          have hobj : (Mem.obj ⟨noL, gs⟩ (.glob n)) = ⟨g, .row 1 (cellsOfI zs)⟩ := by
            show gs.G.get .none n = _
            rw [← hgen, ← hst]
          have hO := hW.obj (.glob n)
          rw [hobj] at hO
          obtain ⟨b, arr, t, hA, hheap, hrow⟩ := hO
          obtain ⟨cap, hv, hcap⟩ : ∃ cap, v = .slice (some ⟨b, 0, none⟩) k cap ∧ k ≤ cap := by
            have hh := hr.head
            cases hh with
            | hs _ _ _ _ c b' sz' tot hA' hc' ht' =>
              rw [hA] at hA'
              cases hA'
              exact ⟨c, by simp, hc'⟩
          subst hv
          have hzl : zs.length = k := by simpa using hlen
          have hblt : b < w.heap.size := by
            have := Array.getElem?_eq_some_iff.1 hheap
            exact this.1
          have hcell : ∀ j (hj : j < zs.length), arr[j]? = some (.int .i64 zs[j]) := by
            intro j hj
            obtain ⟨_, u, hu, hru⟩ := hrow.2.2.2 j [.raw (.int .i64 zs[j])] 0 (.raw (.int .i64 zs[j])) (by simp [cellsOfI, hj]) rfl
            have := hru.raw_inv
            rw [Nat.mul_one, Nat.add_zero] at hu
            rw [hu, this]
          have hH : Go.Sort.Holds (Value.int .i64) w b 0 zs.toArray := by
            intro j hj
            have hj' : j < zs.length := by simpa using hj
            refine ⟨?_, ?_⟩
            · simp only [World.cell?, hheap, Nat.zero_add]
              rw [show (none : Option _).isSome = false from rfl]
              simp [hcell j hj', hj']
            · simp [World.frozen?, hheap]
          have hcalls := Tryd.slices_Sort_int b 0 cap zs w hH hblt (by omega)
          rw [hzl, sortI_merge] at hcalls
          refine hcalls.mono ?_
          rintro e w' ⟨rfl, nn, os, hw'⟩
          have hgrown := Go.grownBy_sortedI (w := w) (g := b) (n := nn) (os := os) (sortI zs).toArray
          rw [← hw'] at hgrown
          have hheap' : w'.heap[b]? = some (.cells (Go.Sort.putCells (Value.int .i64) 0 (sortI zs).toArray arr) t (0, 0)) := by
            rw [hw', Go.Sort.heap_grow_old _ _ (by simpa [Go.Sort.putRow, Go.Sort.mapBlock, Go.Sort.ahead] using hblt)]
            simp [Go.Sort.putRow, Go.Sort.mapBlock, Go.Sort.ahead, Array.getElem?_modify, hheap, Go.Sort.onCells]
          have harr : (Go.Sort.putCells (Value.int .i64) 0 (sortI zs).toArray arr).size = arr.size := by simp [Go.Sort.putCells]
          have hch := hW.change base (.glob n) (by rw [hobj]; rfl) (by simp [mayWrite, hbn]) A ⟨g, .row 1 (cellsOfI (sortI zs))⟩ w' (.inl ⟨rfl, by rw [hobj]⟩) hgrown.size ⟨hgrown.os, hgrown.tape, hgrown.output⟩
            (fun b' hb' hne => hgrown.block b' hb' (fun e => by
              have e' : b' = b := by simpa using e
              subst e'
              exact hne 1 arr.size (by rw [hobj]; exact hA)))
            (fun _ b' s' t' hA' => .inl ⟨s', t', by rw [hobj]; exact hA'⟩)
            (fun hX => ⟨b, _, t, by rw [harr]; exact hA, hheap', by decide, by
                rw [harr]; have := hrow.2.1; simp only [cellsOfI_len, sortI_len] at this ⊢; exact this, fun e he => by obtain ⟨q, _, rfl⟩ := List.mem_map.1 he; rfl, fun i e j y h1 h2 => by
                have hi : i < (sortI zs).length := by have := (List.getElem?_eq_some_iff.1 h1).1; simpa using this
                have he : e = [.raw (.int .i64 (sortI zs)[i])] := by simp [cellsOfI, hi] at h1; exact h1.symm
                subst he
                have hj : j = 0 := by have := (List.getElem?_eq_some_iff.1 h2).1; simpa using this
                subst hj
                simp at h2; subst h2
                refine ⟨rfl, .int .i64 (sortI zs)[i], ?_, .raw _⟩
                have hia : i < arr.size := by have := hrow.2.1; simp only [cellsOfI_len] at this; rw [sortI_len] at hi; omega
                rw [Nat.mul_one, Nat.add_zero]
                simp [Go.Sort.putCells, hia, hi]⟩)
          have eF : (fun b => F b ∨ b ∈ ([] : List Nat)) = F := by funext b; simp
          exact ⟨_, rfl, A, [], [], rfl, hloc, hch.2, by rw [eF]; exact hch.1, by simp, List.nodup_nil, .nil, rfl⟩
        · cases h
      · cases h
    · cases h
  · cases h
end Go.Proofs.YtjcgaelibiiiiaaDoor
