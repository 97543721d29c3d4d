/-
  WALKS over the abstract interpreter: bits.Of. Printed by this seat's own program (genwalk.py) out of door6.py.
-/
import Derived.Test.YtjcgaelibiiiiaaDoorW5
set_option linter.unusedVariables false
set_option linter.unusedSimpArgs false
namespace Go.Proofs.YtjcgaelibiiiiaaDoor
open Go.Abs

theorem ints64_cells (l : List Int) : ints64 (cellsOfI l) = some l := by
  induction l with
  | nil => rfl
  | cons z l ih => show (ints64 (cellsOfI l)).map (z :: ·) = _; rw [ih]; rfl
theorem ev_Clone_some (z : Int) (l : List Int) (hl : l.length < 1000000) (base : Nat) (gs : GS) : Evals E 39 [.sl (cellsOfI (z :: l))] base gs ([.row 1 (cellsOfI (z :: l))], gs) := by
  refine ⟨1, ?_⟩
  have he : E.ext 39 = some cloneF := by kernel_rfl
  unfold call
  simp only [he]
  unfold cloneF
  simp only [ints64_cells, Option.bind_some]
  rw [if_pos (by simp; omega)]
  rfl
theorem ev_Sort_some (n : Nat) (l : List Int) (hl : l.length ≤ 1000000) (base : Nat) (gs : GS) (hb : base ≤ n) (ho : gobj gs n = ⟨0, .row 1 (cellsOfI l)⟩) (hn : n < gs.n) : ∃ gs', Evals E 40 [.hs (.glob n) 0 0 l.length] base gs ([], gs') ∧ (gobj gs' n = ⟨0, .row 1 (cellsOfI (sortI l))⟩ ∧ n < gs'.n) := by
  refine ⟨{ gs with G := gs.G.set .none n ⟨0, .row 1 (cellsOfI (sortI l))⟩ }, ⟨1, ?_⟩, ?_, hn⟩
  · have he : E.ext 40 = some sortF := by kernel_rfl
    unfold call
    simp only [he]
    unfold sortF
    unfold gobj at ho
    simp only [ho, hb, decide_true, Bool.and_true, cellsOfI_len, if_true, hl, ints64_cells, Option.map_some]
  · unfold gobj
    rw [Tbl.get_set]; simp
theorem sort_mem (l : List Int) {i : Nat} (h : i < (sortI l).length) : (sortI l)[i] ∈ l := (sortI_perm l).mem_iff.1 (List.getElem_mem h)
/-- The words, with the last one the word that holds a number. -/
def growI (acc : List (Int × Int)) (n : Int) : List (Int × Int) := if acc ≠ [] ∧ (acc.getD (acc.length - 1) (0, 0)).1 = n / 64 then acc else acc ++ [(n / 64, 0)]
theorem growI_ne (acc : List (Int × Int)) (n : Int) : growI acc n ≠ [] := by
  unfold growI
  split
  · rename_i h; exact h.1
  · simp
/-- One number more, of numbers that rise. -/
def ofStep (acc : List (Int × Int)) (n : Int) : List (Int × Int) :=
  (growI acc n).set ((growI acc n).length - 1) (((growI acc n).getD ((growI acc n).length - 1) (0, 0)).1, ((((growI acc n).getD ((growI acc n).length - 1) (0, 0)).2.toNat ||| 2 ^ (n % 64).toNat : Nat) : Int))
theorem growT {acc : List (Int × Int)} {n : Int} (hc : acc = [] ∨ ∃ h : acc.length - 1 < acc.length, ¬ acc[acc.length - 1].1 = n / 64) {ks : List Nat} {m : Mem} {a : AVal} (h : RowIs ks m a 2 (acc.map wordC ++ [[.raw (.int .i64 (n / 64)), .raw (.int .u64 0)]])) : RowIs ks m a 2 ((growI acc n).map wordC) := by
  have : growI acc n = acc ++ [(n / 64, 0)] := by
    unfold growI
    rw [if_neg]
    rintro ⟨h1, h2⟩
    rcases hc with hc | ⟨hc1, hc⟩
    · exact h1 hc
    · rw [List.getD_eq_getElem?_getD, List.getElem?_eq_getElem hc1] at h2
      exact hc h2
  rw [this, List.map_append]
  exact h
theorem growF {acc : List (Int × Int)} {n : Int} (hne : acc ≠ []) (hl : acc.length - 1 < acc.length) (hc : acc[acc.length - 1].1 = n / 64) {ks : List Nat} {m : Mem} {a : AVal} (h : RowIs ks m a 2 (acc.map wordC)) : RowIs ks m a 2 ((growI acc n).map wordC) := by
  have : growI acc n = acc := by
    unfold growI
    exact if_pos ⟨hne, by rw [List.getD_eq_getElem?_getD, List.getElem?_eq_getElem hl]; exact hc⟩
  rw [this]
  exact h
theorem growI_bits {acc : List (Int × Int)} {n : Int} (h : bits64 acc) : bits64 (growI acc n) := by
  unfold growI
  split
  · exact h
  · intro p hp
    rcases List.mem_append.1 hp with hp | hp
    · exact h p hp
    · simp at hp; subst hp; exact ⟨by show (0 : Int) ≤ 0; decide, by show (0 : Int) < _; decide⟩
theorem growI_len {acc : List (Int × Int)} {n : Int} : (growI acc n).length ≤ acc.length + 1 := by
  unfold growI
  split <;> simp
theorem ofStep_bits {acc : List (Int × Int)} {n : Int} (h0 : 0 ≤ n) (h : bits64 acc) : bits64 (ofStep acc n) := by
  intro p hp
  unfold ofStep at hp
  rcases List.mem_or_eq_of_mem_set hp with hp | hp
  · exact growI_bits h p hp
  · subst hp
    have hlt : (growI acc n).length - 1 < (growI acc n).length := by have := List.length_pos_iff.2 (growI_ne acc n); omega
    have hb := growI_bits (n := n) h _ (List.getElem_mem hlt)
    rw [List.getD_eq_getElem?_getD, List.getElem?_eq_getElem hlt]
    have : ((growI acc n)[(growI acc n).length - 1].2.toNat ||| 2 ^ (n % 64).toNat) < 2 ^ 64 := Nat.or_lt_two_pow (by omega) (Nat.pow_lt_pow_right (by decide) (by omega))
    refine ⟨Int.natCast_nonneg _, ?_⟩
    show ((((growI acc n)[(growI acc n).length - 1].2.toNat ||| 2 ^ (n % 64).toNat : Nat)) : Int) < _
    omega
theorem ofStep_len {acc : List (Int × Int)} {n : Int} : (ofStep acc n).length ≤ acc.length + 1 := by
  unfold ofStep
  rw [List.length_set]
  exact growI_len
theorem wrap_pow {k : Int} (h0 : 0 ≤ k) (h1 : k < 64) : IntKind.u64.wrap ((2 : Int) ^ k.toNat) = ((2 ^ k.toNat : Nat) : Int) := by
  have h : 2 ^ k.toNat < 2 ^ 64 := Nat.pow_lt_pow_right (by decide) (by omega)
  have e : ((2 ^ k.toNat : Nat) : Int) = (2 : Int) ^ k.toNat := by push_cast; rfl
  rw [← e, wrap_u64 (Int.natCast_nonneg _) (by omega)]
theorem or_pow {a k : Int} (ha : 0 ≤ a) (hb : a < 18446744073709551616) (h0 : 0 ≤ k) (h1 : k < 64) : aInt .or .u64 a (IntKind.u64.wrap ((2 : Int) ^ k.toNat)) = some (.int .u64 ((a.toNat ||| 2 ^ k.toNat : Nat) : Int)) := by
  have h : 2 ^ k.toNat < 2 ^ 64 := Nat.pow_lt_pow_right (by decide) (by omega)
  rw [wrap_pow h0 h1]
  have := or_u64n (a := a.toNat) (b := 2 ^ k.toNat) (by omega) (by omega)
  rw [Int.toNat_of_nonneg ha] at this
  exact this
theorem RowIs.hsA {m : Mem} {a : AVal} {A : List (Int × Int)} {k : Nat} (h : RowIs [k] m a 2 (A.map wordC)) (hne : A ≠ []) : ∃ g, a = .hs (.loc k) g 0 A.length ∧ m.obj (.loc k) = ⟨g, .row 2 (A.map wordC)⟩ := by
  rcases h with ⟨_, h⟩ | ⟨k', g, h1, h2, h3, _⟩
  · exact absurd (List.map_eq_nil_iff.1 h) hne
  · simp at h1; subst h1; simp at h2; exact ⟨g, h2, h3⟩
theorem rowIs_step {m : Mem} {acc : List (Int × Int)} {n : Int} {k g : Nat} {e : List AVal} (he : e = wordC (((growI acc n).getD ((growI acc n).length - 1) (0, 0)).1, ((((growI acc n).getD ((growI acc n).length - 1) (0, 0)).2.toNat ||| 2 ^ (n % 64).toNat : Nat) : Int))) :
    RowIs [k] (m.put (.loc k) ⟨g, .row 2 (((growI acc n).map wordC).set ((growI acc n).length - 1) e)⟩) (.hs (.loc k) g 0 (growI acc n).length) 2 ((ofStep acc n).map wordC) := by
  refine .inr ⟨k, g, by simp, by simp [ofStep], ?_, ?_⟩
  · rw [obj_put, if_pos rfl, he]
    unfold ofStep
    rw [List.map_set]
  · have := growI_ne acc n
    simp [ofStep, this]
theorem RowIs.hs1 {k : Nat} {m : Mem} {a : AVal} {sz : Nat} {es : List (List AVal)} (h : RowIs [k] m a sz es) (hne : es ≠ []) : ∃ g, a = .hs (.loc k) g 0 es.length ∧ m.obj (.loc k) = ⟨g, .row sz es⟩ := by
  rcases h with ⟨_, h⟩ | ⟨k', g, h1, h2, h3, _⟩
  · exact absurd h hne
  · simp at h1; subst h1; exact ⟨g, h2, h3⟩
theorem RowIs.len {ks : List Nat} {m : Mem} {a : AVal} {sz : Nat} {es : List (List AVal)} (h : RowIs ks m a sz es) : aLen E (some 23) a = some (.raw (.int .i64 es.length)) := by
  rcases h with ⟨rfl, rfl⟩ | ⟨k', g, h1, rfl, h3, _⟩ <;> simp
theorem idx_hs {t e sz k g n : Nat} {z : Int} {m : Mem} {es : List (List AVal)} {o : OId} (hu : E.under t = some (.slice e)) (hs : E.size e = some sz) (ho : m.obj o = ⟨g, .row sz es⟩) (h0 : 0 ≤ z) (h1 : z < n) (hk : z = k) : idx E m t (.hs o g 0 n) (.raw (.int .i64 z)) = some (.hp o g k 0, none) := by
  subst hk
  unfold idx
  simp only [hu, hs, Option.bind_some, aInd_int _ _ _ h0 h1, ho]
  simp

theorem ev_Of_nil (base : Nat) (gs : GS) : Evals E 24 [.sl []] base gs ([.v (.sl []), .v (.raw (.int .i64 0))], gs) := ⟨20, by kernel_rfl⟩
def withinI (n : Int) : Bool := decide (0 ≤ n) && decide (n < 1048576)
theorem all_bad {l : List Int} {n : Int} (h : n ∈ l) (hb : ¬0 ≤ n ∨ ¬n < 1048576) : l.all withinI = false := by
  cases ha : l.all withinI with
  | false => rfl
  | true =>
    have := List.all_eq_true.1 ha n h
    simp [withinI] at this
    omega
def ofI (l : List Int) : List (Int × Int) := (sortI l).foldl ofStep []
theorem of_all {l : List Int} {i : Nat} (h : ∀ j (h : j < (sortI l).length), j < i → withinI (sortI l)[j] = true) (hi : (sortI l).length ≤ i) : l.all withinI = true := by
  rw [List.all_eq_true]
  intro n hn
  obtain ⟨j, hj, e⟩ := List.getElem_of_mem ((sortI_perm l).mem_iff.2 hn)
  rw [← e]
  exact h j hj (by omega)
theorem of_cont {l : List Int} {acc : List (Int × Int)} {i k g : Nat} {m : Mem} (hi : i < (sortI l).length) (hsl : (sortI l).length = l.length) (hacc : acc = ((sortI l).take i).foldl ofStep []) (hal : acc.length ≤ i) (hn0 : 0 ≤ (sortI l)[i] ∧ (sortI l)[i] < 1048576)
    (hwi : ∀ j (h : j < (sortI l).length), j < i → withinI (sortI l)[j] = true) (hba : bits64 acc) (hlt : (growI acc (sortI l)[i]).length - 1 < (growI acc (sortI l)[i]).length) :
    RowIs [k] (m.put (.loc k) ⟨g, .row 2 (((growI acc (sortI l)[i]).map wordC).set ((growI acc (sortI l)[i]).length - 1) [.raw (.int .i64 (growI acc (sortI l)[i])[(growI acc (sortI l)[i]).length - 1].1), .raw (.int .u64 (((growI acc (sortI l)[i])[(growI acc (sortI l)[i]).length - 1].2.toNat ||| 2 ^ ((sortI l)[i] % 64).toNat : Nat) : Int))])⟩) (.hs (.loc k) g 0 (growI acc (sortI l)[i]).length) 2 ((ofStep acc (sortI l)[i]).map wordC) ∧
    i + 1 ≤ l.length ∧ ofStep acc (sortI l)[i] = ((sortI l).take (i + 1)).foldl ofStep [] ∧ (ofStep acc (sortI l)[i]).length ≤ i + 1 ∧ (∀ j (h : j < (sortI l).length), j < i + 1 → withinI (sortI l)[j] = true) ∧ bits64 (ofStep acc (sortI l)[i]) := by
  refine ⟨rowIs_step ?_, by omega, ?_, ?_, ?_, ofStep_bits hn0.1 hba⟩
  · rw [List.getD_eq_getElem?_getD, List.getElem?_eq_getElem hlt]
    rfl
  · rw [List.take_add_one, List.getElem?_eq_getElem hi, List.foldl_append, ← hacc]
    rfl
  · have := ofStep_len (acc := acc) (n := (sortI l)[i])
    omega
  · intro j hj h
    rcases Nat.lt_or_ge j i with h1 | h1
    · exact hwi j hj h1
    · obtain rfl : j = i := by omega
      simp [withinI, hn0.1, hn0.2]
set_option maxHeartbeats 1000000 in
theorem ev_Of_some (l : List Int) (hl : l.length ≤ 1000) (hne : l ≠ []) (hin : ∀ n ∈ l, -9223372036854775808 ≤ n ∧ n < 9223372036854775808) (base : Nat) (gs : GS) (hb : base ≤ gs.n) : ∃ gs', Evals E 24 [.sl (cellsOfI l)] base gs ([rowRV 2 (if l.all withinI then (ofI l).map wordC else []), .v (.raw (.int .i64 (if l.all withinI then 0 else 2)))], gs') ∧ (fun _ => True) gs' := by
  refine evals_walk_ex (fun _ => True) 59 #[.tmp 2, .tmp 3] rfl (by kernel_rfl) b24_eq (by kernel_rfl) (by kernel_rfl) (by simp) fun s hs hm => ?_
  have a0 : s.get 0 = .sl (cellsOfI l) := by simpa using hs 0
  have hg : s.m.gs = gs := by rw [hm]
  clear hs
  obtain ⟨z0, l0, hzl⟩ : ∃ z l0, l = z :: l0 := List.exists_cons_of_ne_nil hne
  generalize hr0 : ([rowRV 2 (if l.all withinI then (ofI l).map wordC else []), .v (.raw (.int .i64 (if l.all withinI then 0 else 2)))] : List RV) = r0
  unfold b24
  refine aw_seq (aw_region_q r24_0 ?_)
  (repeat (first | simp [-invQ_normal, l24_0, a0, hg, aBin, aUn, pow2_ne, pow2_ne_i, wordC, eqCells, eqCell, int_beq, splice, alloc1_loc, box1_loc, bld, aFill] | simp (disch := omega) only [wrap_i64, wrap_u64, tmod_nn, tdiv_nn, shl_u64]))
  refine aw_seq (aw_region_q r24_1 ?_)
  (repeat (first | simp [-invQ_normal, l24_1, a0, hg, aBin, aUn, pow2_ne, pow2_ne_i, wordC, eqCells, eqCell, int_beq, splice, alloc1_loc, box1_loc, bld, aFill] | simp (disch := omega) only [wrap_i64, wrap_u64, tmod_nn, tdiv_nn, shl_u64]))
  have hcl := ev_Clone_some z0 l0 (by rw [hzl] at hl; simp at hl; omega) s.m.gs.n s.m.gs
  rw [← hzl] at hcl
  refine wpC_rowG hcl (by simp) (by simp) (by simp) (by simp) (by simp [plainArg, plain1, AVal.shared]) ⟨by simp, ?_⟩
  (repeat (first | simp [-invQ_normal, a0, hg, aBin, aUn, pow2_ne, pow2_ne_i, wordC, eqCells, eqCell, int_beq, splice, alloc1_loc, box1_loc, bld, aFill] | simp (disch := omega) only [wrap_i64, wrap_u64, tmod_nn, tdiv_nn, shl_u64]))
  refine aw_seq (aw_region_q r24_2 ?_)
  (repeat (first | simp [-invQ_normal, l24_2, a0, hg, aBin, aUn, pow2_ne, pow2_ne_i, wordC, eqCells, eqCell, int_beq, splice, alloc1_loc, box1_loc, bld, aFill] | simp (disch := omega) only [wrap_i64, wrap_u64, tmod_nn, tdiv_nn, shl_u64]))
  refine wpC_eff (ev_Sort_some gs.n l (by omega) base _ hb (by simp [hg]) (by simp [hg])) (by simp) (by simp [isRow]) (by simp) (by simp) (by simp [plainArg, plain1, AVal.shared, AVal.shared.sharedOne, rawCell]) (fun gse3 pe3 => ⟨by simp, ?_⟩)
  (repeat (first | simp [-invQ_normal, a0, hg, aBin, aUn, pow2_ne, pow2_ne_i, wordC, eqCells, eqCell, int_beq, splice, alloc1_loc, box1_loc, bld, aFill] | simp (disch := omega) only [wrap_i64, wrap_u64, tmod_nn, tdiv_nn, shl_u64]))
  refine aw_seq (aw_region_q r24_3 ?_)
  (repeat (first | simp [-invQ_normal, l24_3, a0, hg, aBin, aUn, pow2_ne, pow2_ne_i, wordC, eqCells, eqCell, int_beq, splice, alloc1_loc, box1_loc, bld, aFill] | simp (disch := omega) only [wrap_i64, wrap_u64, tmod_nn, tdiv_nn, shl_u64]))
  refine aw_seq ?_
  refine aw_seq (aw_region_q r24_4 ?_)
  (repeat (first | simp [-invQ_normal, l24_4, a0, hg, aBin, aUn, pow2_ne, pow2_ne_i, wordC, eqCells, eqCell, int_beq, splice, alloc1_loc, box1_loc, bld, aFill] | simp (disch := omega) only [wrap_i64, wrap_u64, tmod_nn, tdiv_nn, shl_u64]))
  refine aw_block ?_
  obtain ⟨I6, hI6⟩ : ∃ I : Nat → St → Prop, I = fun k s => ∃ (i : Nat) (acc : List (Int × Int)), k = l.length - i ∧ s.get 14 = .hs (.glob gs.n) 0 0 l.length ∧ s.get 15 = .raw (.int .i64 l.length) ∧ s.get 16 = .raw (.int .i64 i) ∧ RowIs [172] s.m (s.get 5) 2 (acc.map wordC) ∧ gobj s.m.gs gs.n = ⟨0, .row 1 (cellsOfI (sortI l))⟩ ∧ (i ≤ l.length) ∧ (acc = ((sortI l).take i).foldl ofStep []) ∧ (acc.length ≤ i) ∧ (∀ j (h : j < (sortI l).length), j < i → withinI (sortI l)[j] = true) ∧ (bits64 acc) := ⟨_, rfl⟩
  refine aw_inv2 I6 ?_ ?_
  · rw [hI6]
    refine ⟨_, 0, [], rfl, ?_⟩
    (repeat (first | simp [-invQ_normal, a0, hg, aBin, aUn, pow2_ne, pow2_ne_i, wordC, eqCells, eqCell, int_beq, splice, alloc1_loc, box1_loc, bld, aFill] | simp (disch := omega) only [wrap_i64, wrap_u64, tmod_nn, tdiv_nn, shl_u64])) <;> (exact ⟨pe3.1, fun _ h => absurd h (by simp)⟩)
  · intro k s hI0
    rw [hI6] at hI0
    obtain ⟨i, acc, k7, i8_14, i9_15, i10_16, hr5, og, hi, hacc, hal, hwi, hba⟩ := hI0
    have hrow := hr5
    have hsl : (sortI l).length = l.length := sortI_len l
    have hlen : aLen E (some 23) (s.get 5) = some (.raw (.int .i64 acc.length)) := (by simpa using RowIs.len hr5)
    have ia := fun (z : Int) (h0 : 0 ≤ z) (h1 : z < l.length) => (show idx E s.m 24 (.hs (.glob gs.n) 0 0 l.length) (.raw (.int .i64 z)) = some (.hp (.glob gs.n) 0 z.toNat 0, none) from idx_hs (k := z.toNat) (e_E_under_24 _) (e_E_size_3 _) (by simpa using og) h0 h1 (by omega))
    unfold b24_L0
    refine aw_seq (aw_region_q r24_5 ?_)
    (repeat (first | simp [-invQ_normal, l24_5, i8_14, i9_15, i10_16, og, hlen, aBin, aUn, pow2_ne, pow2_ne_i, wordC, eqCells, eqCell, int_beq, splice, alloc1_loc, box1_loc, bld, aFill] | simp (disch := omega) only [ia, wrap_i64, wrap_u64, tmod_nn, tdiv_nn, shl_u64]))
    refine aw_seq ?_
    refine aw_cond_v ?_
    (repeat (first | simp [-invQ_normal, i8_14, i9_15, i10_16, og, hlen, aBin, aUn, pow2_ne, pow2_ne_i, wordC, eqCells, eqCell, int_beq, splice, alloc1_loc, box1_loc, bld, aFill] | simp (disch := omega) only [ia, wrap_i64, wrap_u64, tmod_nn, tdiv_nn, shl_u64]))
    refine condV_split ⟨_, rfl⟩ (fun c16 => ?_) (fun c16 => ?_)
    · simp only [AVal.raw.injEq, Value.bool.injEq, decide_eq_false_iff_not, decide_eq_true_eq, Bool.not_eq_true, Bool.not_eq_false, Bool.not_eq_eq_eq_not, Bool.not_true, Bool.not_false, Bool.and_eq_true, Bool.or_eq_true, Bool.or_eq_false_iff] at c16
      refine aw_skip ?_
      try simp only [seqQ_normal, seqQ_exit, seqQ_ret, blockQ_normal, blockQ_ret, blockQ_exit, invQ_exit, invQ_ret, endQ_eq, if_true, reduceIte, Nat.reduceEqDiff, reduceCtorEq]
      refine aw_seq ?_
      refine aw_block ?_
      refine aw_seq (aw_region_q r24_6 ?_)
      have hel : (cellsOfI (sortI l))[i]? = some [.raw (.int .i64 (sortI l)[i])] := (by simp [cellsOfI, show i < (sortI l).length by rw [sortI_len]; omega])
      (repeat (first | simp [-invQ_normal, l24_6, i8_14, i9_15, i10_16, og, hlen, c16, hel, aBin, aUn, pow2_ne, pow2_ne_i, wordC, eqCells, eqCell, int_beq, splice, alloc1_loc, box1_loc, bld, aFill] | simp (disch := omega) only [ia, wrap_i64, wrap_u64, tmod_nn, tdiv_nn, shl_u64]))
      refine aw_seq ?_
      refine aw_seq (aw_region_q r24_7 ?_)
      (repeat (first | simp [-invQ_normal, l24_7, i8_14, i9_15, i10_16, og, hlen, c16, hel, aBin, aUn, pow2_ne, pow2_ne_i, wordC, eqCells, eqCell, int_beq, splice, alloc1_loc, box1_loc, bld, aFill] | simp (disch := omega) only [ia, wrap_i64, wrap_u64, tmod_nn, tdiv_nn, shl_u64]))
      refine wpC_vals (ev_within _ _ _) (by simp) (by simp [isRow]) (by simp) (by first | simp | assumption) (by simp [plainArg, plain1, AVal.shared, AVal.shared.sharedOne, rawCell]) ⟨by simp, ?_⟩
      (repeat (first | simp [-invQ_normal, i8_14, i9_15, i10_16, og, hlen, c16, hel, aBin, aUn, pow2_ne, pow2_ne_i, wordC, eqCells, eqCell, int_beq, splice, alloc1_loc, box1_loc, bld, aFill] | simp (disch := omega) only [ia, wrap_i64, wrap_u64, tmod_nn, tdiv_nn, shl_u64]))
      refine aw_cond_v ?_
      (repeat (first | simp [-invQ_normal, i8_14, i9_15, i10_16, og, hlen, c16, hel, aBin, aUn, pow2_ne, pow2_ne_i, wordC, eqCells, eqCell, int_beq, splice, alloc1_loc, box1_loc, bld, aFill] | simp (disch := omega) only [ia, wrap_i64, wrap_u64, tmod_nn, tdiv_nn, shl_u64]))
      refine condV_split ⟨_, rfl⟩ (fun c17 => ?_) (fun c17 => ?_)
      · simp only [AVal.raw.injEq, Value.bool.injEq, decide_eq_false_iff_not, decide_eq_true_eq, Bool.not_eq_true, Bool.not_eq_false, Bool.not_eq_eq_eq_not, Bool.not_true, Bool.not_false, Bool.and_eq_true, Bool.or_eq_true, Bool.or_eq_false_iff] at c17
        have hbad : l.all withinI = false := all_bad (sort_mem l (by rw [sortI_len]; omega)) c17
        refine aw_seq (aw_region_q r24_8 ?_)
        (repeat (first | simp [-invQ_normal, l24_8, i8_14, i9_15, i10_16, og, hlen, c16, hel, c17, aBin, aUn, pow2_ne, pow2_ne_i, wordC, eqCells, eqCell, int_beq, splice, alloc1_loc, box1_loc, bld, aFill] | simp (disch := omega) only [ia, wrap_i64, wrap_u64, tmod_nn, tdiv_nn, shl_u64]))
        refine aw_ret (retP_vals [.e0, .raw (.int .i64 2)] (.inr rfl) ?_ (by simp [givenOk, givenAs, AVal.fixed, rawCell]) (hr0.symm.trans ?_) ?_)
        · (repeat (first | simp [-invQ_normal, resultOf, i8_14, i9_15, i10_16, og, hlen, c16, hel, c17, aBin, aUn, pow2_ne, pow2_ne_i, wordC, eqCells, eqCell, int_beq, splice, alloc1_loc, box1_loc, bld, aFill] | simp (disch := omega) only [ia, wrap_i64, wrap_u64, tmod_nn, tdiv_nn, shl_u64]))
        · rw [hbad]; rfl
        · trivial
      · simp only [AVal.raw.injEq, Value.bool.injEq, decide_eq_false_iff_not, decide_eq_true_eq, Bool.not_eq_true, Bool.not_eq_false, Bool.not_eq_eq_eq_not, Bool.not_true, Bool.not_false, Bool.and_eq_true, Bool.or_eq_true, Bool.or_eq_false_iff] at c17
        have hn0 : 0 ≤ (sortI l)[i] ∧ (sortI l)[i] < 1048576 := (by simpa using c17)
        refine aw_skip ?_
        try simp only [seqQ_normal, seqQ_exit, seqQ_ret, blockQ_normal, blockQ_ret, blockQ_exit, invQ_exit, invQ_ret, endQ_eq, if_true, reduceIte, Nat.reduceEqDiff, reduceCtorEq]
        refine aw_seq (aw_region_q r24_9 ?_)
        (repeat (first | simp [-invQ_normal, l24_9, i8_14, i9_15, i10_16, og, hlen, c16, hel, c17, aBin, aUn, pow2_ne, pow2_ne_i, wordC, eqCells, eqCell, int_beq, splice, alloc1_loc, box1_loc, bld, aFill] | simp (disch := omega) only [ia, wrap_i64, wrap_u64, tmod_nn, tdiv_nn, shl_u64]))
        refine aw_seq ?_
        refine aw_seq (aw_region_q r24_10 ?_)
        (repeat (first | simp [-invQ_normal, l24_10, i8_14, i9_15, i10_16, og, hlen, c16, hel, c17, aBin, aUn, pow2_ne, pow2_ne_i, wordC, eqCells, eqCell, int_beq, splice, alloc1_loc, box1_loc, bld, aFill] | simp (disch := omega) only [ia, wrap_i64, wrap_u64, tmod_nn, tdiv_nn, shl_u64]))
        refine aw_seq (aw_region_q r24_11 ?_)
        (repeat (first | simp [-invQ_normal, l24_11, i8_14, i9_15, i10_16, og, hlen, c16, hel, c17, aBin, aUn, pow2_ne, pow2_ne_i, wordC, eqCells, eqCell, int_beq, splice, alloc1_loc, box1_loc, bld, aFill] | simp (disch := omega) only [ia, wrap_i64, wrap_u64, tmod_nn, tdiv_nn, shl_u64]))
        refine wpG_split ⟨_, rfl⟩ (fun g20 => ?_) (fun g20 => ?_)
        · simp only [AVal.raw.injEq, Value.bool.injEq, decide_eq_false_iff_not, decide_eq_true_eq, Bool.not_eq_true, Bool.not_eq_false, Bool.not_eq_eq_eq_not, Bool.not_true, Bool.not_false, Bool.and_eq_true, Bool.or_eq_true, Bool.or_eq_false_iff] at g20
          have hz : acc = [] := g20
          have hc0 : acc = [] ∨ ∃ h : acc.length - 1 < acc.length, ¬ acc[acc.length - 1].1 = (sortI l)[i] / 64 := .inl g20
          (repeat (first | simp [-invQ_normal, i8_14, i9_15, i10_16, og, hlen, c16, hel, c17, g20, aBin, aUn, pow2_ne, pow2_ne_i, wordC, eqCells, eqCell, int_beq, splice, alloc1_loc, box1_loc, bld, aFill] | simp (disch := omega) only [ia, wrap_i64, wrap_u64, tmod_nn, tdiv_nn, shl_u64]))
          refine aw_cond_1 (by (repeat (first | simp [-invQ_normal, i8_14, i9_15, i10_16, og, hlen, c16, hel, c17, g20, aBin, aUn, pow2_ne, pow2_ne_i, wordC, eqCells, eqCell, int_beq, splice, alloc1_loc, box1_loc, bld, aFill] | simp (disch := omega) only [ia, wrap_i64, wrap_u64, tmod_nn, tdiv_nn, shl_u64]))) ?_
          refine aw_region_q r24_12 ?_
          (repeat (first | simp [-invQ_normal, l24_12, i8_14, i9_15, i10_16, og, hlen, c16, hel, c17, g20, aBin, aUn, pow2_ne, pow2_ne_i, wordC, eqCells, eqCell, int_beq, splice, alloc1_loc, box1_loc, bld, aFill] | simp (disch := omega) only [ia, wrap_i64, wrap_u64, tmod_nn, tdiv_nn, shl_u64]))
          refine wpV_append hrow (by simp) (by simp) (by simp [AVal.fixed, rawCell]) (e_E_size_52 _) (e_E_bytes_52 _) (e_E_zero_52 _) rfl (by decide) (by decide) (by simp [maxBytes]; omega) (fun xa21 ma21 ra21 ga21 fa21 => ⟨by simp, ?_⟩)
          have hrow := growT hc0 ra21
          (repeat (first | simp [-invQ_normal, i8_14, i9_15, i10_16, og, hlen, c16, hel, c17, g20, ga21, aBin, aUn, pow2_ne, pow2_ne_i, wordC, eqCells, eqCell, int_beq, splice, alloc1_loc, box1_loc, bld, aFill] | simp (disch := omega) only [ia, wrap_i64, wrap_u64, tmod_nn, tdiv_nn, shl_u64]))
          refine aw_region_x r24_13 [false,false,false,false,false,false,false,false,false,false,false,false,false,true] (by kernel_rfl) ?_
          obtain ⟨gq, eq, oq⟩ := RowIs.hsA hrow (growI_ne _ _)
          have hbq := growI_bits (n := (sortI l)[i]) hba
          have hlq := growI_len (acc := acc) (n := (sortI l)[i])
          have hpq : 0 < (growI acc (sortI l)[i]).length := List.length_pos_iff.2 (growI_ne _ _)
          generalize hA : growI acc (sortI l)[i] = A at *
          have iq := fun (z : Int) h0 h1 => idx_hs (z := z) (k := z.toNat) (n := A.length) (e_E_under_23 _) (e_E_size_52 _) oq h0 h1 (by omega)
          have elq : (A.map wordC)[A.length - 1]? = some (wordC A[A.length - 1]) := (by rw [List.getElem?_map, List.getElem?_eq_getElem (by omega)]; rfl)
          have bq := hbq _ (List.getElem_mem (show A.length - 1 < A.length by omega))
          have orq := or_pow (a := A[A.length - 1].2) (k := (sortI l)[i] % 64) bq.1 bq.2 (by omega) (by omega)
          have wq := fun (i off : Nat) (new : List AVal) hn => wobj_row (base := base) (i := i) (off := off) (new := new) oq hn
          first | (have o5q := o5.symm.trans oq) | (have o5q := eq)
          (repeat (first | simp [-invQ_normal, l24_13, i8_14, i9_15, i10_16, og, hlen, c16, hel, c17, g20, ga21, eq, oq, elq, orq, o5q, wq, aBin, aUn, pow2_ne, pow2_ne_i, wordC, eqCells, eqCell, int_beq, splice, alloc1_loc, box1_loc, bld, aFill] | simp (disch := omega) only [ia, iq, wrap_i64, wrap_u64, tmod_nn, tdiv_nn, shl_u64]))
          refine aw_region_q r24_14 ?_
          (repeat (first | simp [-invQ_normal, l24_14, i8_14, i9_15, i10_16, og, hlen, c16, hel, c17, g20, ga21, eq, oq, elq, orq, o5q, wq, aBin, aUn, pow2_ne, pow2_ne_i, wordC, eqCells, eqCell, int_beq, splice, alloc1_loc, box1_loc, bld, aFill] | simp (disch := omega) only [ia, iq, wrap_i64, wrap_u64, tmod_nn, tdiv_nn, shl_u64]))
          -- cont 0: t17=T t21=T t28=T
          simp only [invQ_normal]
          rw [hI6]
          refine ⟨_, ?_, i + 1, ofStep acc (sortI l)[i], rfl, ?_⟩
          · omega
          · (repeat (first | simp [-invQ_normal, i8_14, i9_15, i10_16, og, hlen, c16, hel, c17, g20, ga21, eq, oq, elq, orq, o5q, wq, aBin, aUn, pow2_ne, pow2_ne_i, wordC, eqCells, eqCell, int_beq, splice, alloc1_loc, box1_loc, bld, aFill] | simp (disch := omega) only [ia, iq, wrap_i64, wrap_u64, tmod_nn, tdiv_nn, shl_u64])) <;> ((first | subst hz | skip); subst hA; exact of_cont (by omega) hsl hacc hal hn0 hwi hba (by omega))
        · simp only [AVal.raw.injEq, Value.bool.injEq, decide_eq_false_iff_not, decide_eq_true_eq, Bool.not_eq_true, Bool.not_eq_false, Bool.not_eq_eq_eq_not, Bool.not_true, Bool.not_false, Bool.and_eq_true, Bool.or_eq_true, Bool.or_eq_false_iff] at g20
          have hne5 : acc ≠ [] := g20
          obtain ⟨g5, e5, o5⟩ := RowIs.hs1 hrow (by simpa using hne5)
          have hpos : 0 < acc.length := List.length_pos_iff.2 hne5
          have il := fun (z : Int) h0 h1 => idx_hs (z := z) (k := z.toNat) (n := acc.length) (e_E_under_23 _) (e_E_size_52 _) o5 h0 h1 (by omega)
          have hel5 : (acc.map wordC)[acc.length - 1]? = some (wordC acc[acc.length - 1]) := (by rw [List.getElem?_map, List.getElem?_eq_getElem (by omega)]; rfl)
          simp only [List.length_map] at e5
          have hrow : RowIs [172] s.m (.hs (.loc 172) g5 0 acc.length) 2 (acc.map wordC) := (by have := hrow; rw [e5] at this; exact this)
          (repeat (first | simp [-invQ_normal, i8_14, i9_15, i10_16, og, hlen, c16, hel, c17, g20, e5, o5, hel5, aBin, aUn, pow2_ne, pow2_ne_i, wordC, eqCells, eqCell, int_beq, splice, alloc1_loc, box1_loc, bld, aFill] | simp (disch := omega) only [ia, il, wrap_i64, wrap_u64, tmod_nn, tdiv_nn, shl_u64]))
          refine aw_cond_v ?_
          (repeat (first | simp [-invQ_normal, i8_14, i9_15, i10_16, og, hlen, c16, hel, c17, g20, e5, o5, hel5, aBin, aUn, pow2_ne, pow2_ne_i, wordC, eqCells, eqCell, int_beq, splice, alloc1_loc, box1_loc, bld, aFill] | simp (disch := omega) only [ia, il, wrap_i64, wrap_u64, tmod_nn, tdiv_nn, shl_u64]))
          refine condV_split ⟨_, rfl⟩ (fun c22 => ?_) (fun c22 => ?_)
          · simp only [AVal.raw.injEq, Value.bool.injEq, decide_eq_false_iff_not, decide_eq_true_eq, Bool.not_eq_true, Bool.not_eq_false, Bool.not_eq_eq_eq_not, Bool.not_true, Bool.not_false, Bool.and_eq_true, Bool.or_eq_true, Bool.or_eq_false_iff] at c22
            have hc0 : acc = [] ∨ ∃ h : acc.length - 1 < acc.length, ¬ acc[acc.length - 1].1 = (sortI l)[i] / 64 := .inr ⟨by omega, c22⟩
            refine aw_region_q r24_12 ?_
            (repeat (first | simp [-invQ_normal, l24_12, i8_14, i9_15, i10_16, og, hlen, c16, hel, c17, g20, e5, o5, hel5, c22, aBin, aUn, pow2_ne, pow2_ne_i, wordC, eqCells, eqCell, int_beq, splice, alloc1_loc, box1_loc, bld, aFill] | simp (disch := omega) only [ia, il, wrap_i64, wrap_u64, tmod_nn, tdiv_nn, shl_u64]))
            refine wpV_append hrow (by simp) (by simp) (by simp [AVal.fixed, rawCell]) (e_E_size_52 _) (e_E_bytes_52 _) (e_E_zero_52 _) rfl (by decide) (by decide) (by simp [maxBytes]; omega) (fun xa23 ma23 ra23 ga23 fa23 => ⟨by simp, ?_⟩)
            have hrow := growT hc0 ra23
            (repeat (first | simp [-invQ_normal, i8_14, i9_15, i10_16, og, hlen, c16, hel, c17, g20, e5, o5, hel5, c22, ga23, aBin, aUn, pow2_ne, pow2_ne_i, wordC, eqCells, eqCell, int_beq, splice, alloc1_loc, box1_loc, bld, aFill] | simp (disch := omega) only [ia, il, wrap_i64, wrap_u64, tmod_nn, tdiv_nn, shl_u64]))
            refine aw_region_x r24_13 [false,false,false,false,false,false,false,false,false,false,false,false,false,true] (by kernel_rfl) ?_
            obtain ⟨gq, eq, oq⟩ := RowIs.hsA hrow (growI_ne _ _)
            have hbq := growI_bits (n := (sortI l)[i]) hba
            have hlq := growI_len (acc := acc) (n := (sortI l)[i])
            have hpq : 0 < (growI acc (sortI l)[i]).length := List.length_pos_iff.2 (growI_ne _ _)
            generalize hA : growI acc (sortI l)[i] = A at *
            have iq := fun (z : Int) h0 h1 => idx_hs (z := z) (k := z.toNat) (n := A.length) (e_E_under_23 _) (e_E_size_52 _) oq h0 h1 (by omega)
            have elq : (A.map wordC)[A.length - 1]? = some (wordC A[A.length - 1]) := (by rw [List.getElem?_map, List.getElem?_eq_getElem (by omega)]; rfl)
            have bq := hbq _ (List.getElem_mem (show A.length - 1 < A.length by omega))
            have orq := or_pow (a := A[A.length - 1].2) (k := (sortI l)[i] % 64) bq.1 bq.2 (by omega) (by omega)
            have wq := fun (i off : Nat) (new : List AVal) hn => wobj_row (base := base) (i := i) (off := off) (new := new) oq hn
            first | (have o5q := o5.symm.trans oq) | (have o5q := eq)
            (repeat (first | simp [-invQ_normal, l24_13, i8_14, i9_15, i10_16, og, hlen, c16, hel, c17, g20, e5, o5, hel5, c22, ga23, eq, oq, elq, orq, o5q, wq, aBin, aUn, pow2_ne, pow2_ne_i, wordC, eqCells, eqCell, int_beq, splice, alloc1_loc, box1_loc, bld, aFill] | simp (disch := omega) only [ia, il, iq, wrap_i64, wrap_u64, tmod_nn, tdiv_nn, shl_u64]))
            refine aw_region_q r24_14 ?_
            (repeat (first | simp [-invQ_normal, l24_14, i8_14, i9_15, i10_16, og, hlen, c16, hel, c17, g20, e5, o5, hel5, c22, ga23, eq, oq, elq, orq, o5q, wq, aBin, aUn, pow2_ne, pow2_ne_i, wordC, eqCells, eqCell, int_beq, splice, alloc1_loc, box1_loc, bld, aFill] | simp (disch := omega) only [ia, il, iq, wrap_i64, wrap_u64, tmod_nn, tdiv_nn, shl_u64]))
            -- cont 1: t17=T t21=T t28=F t37=T
            simp only [invQ_normal]
            rw [hI6]
            refine ⟨_, ?_, i + 1, ofStep acc (sortI l)[i], rfl, ?_⟩
            · omega
            · (repeat (first | simp [-invQ_normal, i8_14, i9_15, i10_16, og, hlen, c16, hel, c17, g20, e5, o5, hel5, c22, ga23, eq, oq, elq, orq, o5q, wq, aBin, aUn, pow2_ne, pow2_ne_i, wordC, eqCells, eqCell, int_beq, splice, alloc1_loc, box1_loc, bld, aFill] | simp (disch := omega) only [ia, il, iq, wrap_i64, wrap_u64, tmod_nn, tdiv_nn, shl_u64])) <;> ((first | subst hz | skip); subst hA; exact of_cont (by omega) hsl hacc hal hn0 hwi hba (by omega))
          · simp only [AVal.raw.injEq, Value.bool.injEq, decide_eq_false_iff_not, decide_eq_true_eq, Bool.not_eq_true, Bool.not_eq_false, Bool.not_eq_eq_eq_not, Bool.not_true, Bool.not_false, Bool.and_eq_true, Bool.or_eq_true, Bool.or_eq_false_iff] at c22
            have hrow := growF hne5 (by omega) c22 hrow
            refine aw_skip ?_
            try simp only [seqQ_normal, seqQ_exit, seqQ_ret, blockQ_normal, blockQ_ret, blockQ_exit, invQ_exit, invQ_ret, endQ_eq, if_true, reduceIte, Nat.reduceEqDiff, reduceCtorEq]
            refine aw_region_x r24_13 [false,false,false,false,false,false,false,false,false,false,false,false,false,true] (by kernel_rfl) ?_
            obtain ⟨gq, eq, oq⟩ := RowIs.hsA hrow (growI_ne _ _)
            have hbq := growI_bits (n := (sortI l)[i]) hba
            have hlq := growI_len (acc := acc) (n := (sortI l)[i])
            have hpq : 0 < (growI acc (sortI l)[i]).length := List.length_pos_iff.2 (growI_ne _ _)
            generalize hA : growI acc (sortI l)[i] = A at *
            have iq := fun (z : Int) h0 h1 => idx_hs (z := z) (k := z.toNat) (n := A.length) (e_E_under_23 _) (e_E_size_52 _) oq h0 h1 (by omega)
            have elq : (A.map wordC)[A.length - 1]? = some (wordC A[A.length - 1]) := (by rw [List.getElem?_map, List.getElem?_eq_getElem (by omega)]; rfl)
            have bq := hbq _ (List.getElem_mem (show A.length - 1 < A.length by omega))
            have orq := or_pow (a := A[A.length - 1].2) (k := (sortI l)[i] % 64) bq.1 bq.2 (by omega) (by omega)
            have wq := fun (i off : Nat) (new : List AVal) hn => wobj_row (base := base) (i := i) (off := off) (new := new) oq hn
            first | (have o5q := o5.symm.trans oq) | (have o5q := eq)
            (repeat (first | simp [-invQ_normal, l24_13, i8_14, i9_15, i10_16, og, hlen, c16, hel, c17, g20, e5, o5, hel5, c22, eq, oq, elq, orq, o5q, wq, aBin, aUn, pow2_ne, pow2_ne_i, wordC, eqCells, eqCell, int_beq, splice, alloc1_loc, box1_loc, bld, aFill] | simp (disch := omega) only [ia, il, iq, wrap_i64, wrap_u64, tmod_nn, tdiv_nn, shl_u64]))
            refine aw_region_q r24_14 ?_
            (repeat (first | simp [-invQ_normal, l24_14, i8_14, i9_15, i10_16, og, hlen, c16, hel, c17, g20, e5, o5, hel5, c22, eq, oq, elq, orq, o5q, wq, aBin, aUn, pow2_ne, pow2_ne_i, wordC, eqCells, eqCell, int_beq, splice, alloc1_loc, box1_loc, bld, aFill] | simp (disch := omega) only [ia, il, iq, wrap_i64, wrap_u64, tmod_nn, tdiv_nn, shl_u64]))
            -- cont 2: t17=T t21=T t28=F t37=F
            simp only [invQ_normal]
            rw [hI6]
            refine ⟨_, ?_, i + 1, ofStep acc (sortI l)[i], rfl, ?_⟩
            · omega
            · (repeat (first | simp [-invQ_normal, i8_14, i9_15, i10_16, og, hlen, c16, hel, c17, g20, e5, o5, hel5, c22, eq, oq, elq, orq, o5q, wq, aBin, aUn, pow2_ne, pow2_ne_i, wordC, eqCells, eqCell, int_beq, splice, alloc1_loc, box1_loc, bld, aFill] | simp (disch := omega) only [ia, il, iq, wrap_i64, wrap_u64, tmod_nn, tdiv_nn, shl_u64])) <;> ((first | subst hz | skip); subst hA; exact of_cont (by omega) hsl hacc hal hn0 hwi hba (by omega))
    · simp only [AVal.raw.injEq, Value.bool.injEq, decide_eq_false_iff_not, decide_eq_true_eq, Bool.not_eq_true, Bool.not_eq_false, Bool.not_eq_eq_eq_not, Bool.not_true, Bool.not_false, Bool.and_eq_true, Bool.or_eq_true, Bool.or_eq_false_iff] at c16
      have hall : l.all withinI = true := of_all hwi (by omega)
      refine aw_exit ?_
      try simp only [seqQ_normal, seqQ_exit, seqQ_ret, blockQ_normal, blockQ_ret, blockQ_exit, invQ_exit, invQ_ret, endQ_eq, if_true, reduceIte, Nat.reduceEqDiff, reduceCtorEq]
      refine aw_seq (aw_region_q r24_15 ?_)
      (repeat (first | simp [-invQ_normal, l24_15, i8_14, i9_15, i10_16, og, hlen, c16, hall, aBin, aUn, pow2_ne, pow2_ne_i, wordC, eqCells, eqCell, int_beq, splice, alloc1_loc, box1_loc, bld, aFill] | simp (disch := omega) only [ia, wrap_i64, wrap_u64, tmod_nn, tdiv_nn, shl_u64]))
      refine aw_ret (retP_row (sz := 2) (a := s.get 5) [.raw (.int .i64 (if l.all withinI then 0 else 2))] (.inr rfl) ?_ hr5 (by simp) (by simp [givenAs, AVal.fixed, rawCell]) (by simp) (hr0.symm.trans ?_))
      · (repeat (first | simp [-invQ_normal, resultOf, i8_14, i9_15, i10_16, og, hlen, c16, hall, aBin, aUn, pow2_ne, pow2_ne_i, wordC, eqCells, eqCell, int_beq, splice, alloc1_loc, box1_loc, bld, aFill] | simp (disch := omega) only [ia, wrap_i64, wrap_u64, tmod_nn, tdiv_nn, shl_u64]))
      · rw [if_pos hall, show ofI l = acc from (by rw [hacc, ofI, List.take_of_length_le (by omega)])]; rfl

end Go.Proofs.YtjcgaelibiiiiaaDoor
