/-
  WALKS over the abstract interpreter: fescuelaw02.BitsBack. Printed by this seat's own program (genwalk.py) out of door7.py.
-/
import Derived.Test.YtjcgaelibiiiiaaDoorOfI
set_option linter.unusedVariables false
set_option linter.unusedSimpArgs false
namespace Go.Proofs.YtjcgaelibiiiiaaDoor
open Go.Abs

theorem ev_Of (l : List Int) (hl : l.length ≤ 1000) (hin : ∀ n ∈ l, -9223372036854775808 ≤ n ∧ n < 9223372036854775808) (base : Nat) (gs : GS) (hb : base ≤ gs.n) : ∃ gs', Evals E 24 [.sl (intsL l)] base gs (rowRV 2 ((ofA l).map wordC) :: [.raw (.int .i64 (if l.all withinI then 0 else 2))].map .v, gs') := by
  cases l with
  | nil => exact ⟨gs, ev_Of_nil base gs⟩
  | cons z l =>
    obtain ⟨gs', h, _⟩ := ev_Of_some (z :: l) hl (by simp) hin base gs hb
    refine ⟨gs', ?_⟩
    have e : (ofA (z :: l)).map wordC = if (z :: l).all withinI then (ofI (z :: l)).map wordC else [] := by
      unfold ofA
      split <;> rfl
    rw [e]
    exact h
theorem ofA_good (l : List Int) : goodI (-1) (ofA l) = true ∧ bits64 (ofA l) := by
  unfold ofA
  split
  · rename_i h; exact ⟨(of_inv h).good, (of_inv h).bits⟩
  · exact ⟨rfl, fun _ h => absurd h (by simp)⟩
theorem list_range {ws : List (Int × Int)} (hg : goodI (-1) ws = true) : ∀ n ∈ listI ws, -9223372036854775808 ≤ n ∧ n < 9223372036854775808 := fun n hn => by
  have := all_within (list_within hg) n hn
  omega
theorem list_sub {l : List Int} (hall : l.all withinI = true) {z : Int} (h : z ∈ listI (ofA l)) : z ∈ l := by
  obtain ⟨h0, h1⟩ := (mem_list (ofA_good l).1 z).1 h
  unfold ofA at h1
  rw [if_pos hall, in_of hall, decide_eq_true_eq, Int.toNat_of_nonneg h0] at h1
  exact h1
theorem of_has {l : List Int} (hall : l.all withinI = true) {n : Int} (h : n ∈ l) : inI (ofA l) n.toNat = true := by
  have := all_within hall n h
  unfold ofA
  rw [if_pos hall, in_of hall, decide_eq_true_eq, Int.toNat_of_nonneg this.1]
  exact h
theorem list_up {ws : List (Int × Int)} (hg : goodI (-1) ws = true) {i : Nat} (h : i < (listI ws).length) (h0 : 0 < i) : (listI ws)[i - 1] < (listI ws)[i] := List.pairwise_iff_getElem.1 (list_rises hg) (i - 1) i (by omega) h (by omega)
theorem mem_take_s {l : List Int} {n : Nat} {x : Int} (h : n < l.length) : x ∈ l.take (n + 1) ↔ x ∈ l.take n ∨ x = l[n] := by
  rw [List.take_add_one, List.getElem?_eq_getElem h, List.mem_append]
  simp only [Option.toList_some, List.mem_singleton]
theorem all_not {l : List Int} (h : ∃ x, x ∈ l ∧ withinI x = false) : l.all withinI = false := by
  obtain ⟨x, h1, h2⟩ := h
  cases ha : l.all withinI with
  | false => rfl
  | true => rw [List.all_eq_true.1 ha x h1] at h2; cases h2
theorem list_len10 {ws : List (Int × Int)} (h : ws.length ≤ 10) : (listI ws).length ≤ 1000 := by
  have := listI_len ws
  omega

set_option maxHeartbeats 1000000 in
theorem ev_of (l : List Int) (hl : l.length ≤ 1000) (hin : ∀ n ∈ l, -9223372036854775808 ≤ n ∧ n < 9223372036854775808) (hall : l.all withinI = true) (base : Nat) (gs : GS)  : Evals E 23 [.sl (intsL l)] base gs ([rowRV 2 ((ofA l).map wordC)], gs) := by
  refine evals_walk 13 #[.tmp 2] rfl (by kernel_rfl) b23_eq (by kernel_rfl) (by kernel_rfl) (by simp) fun s hs hm => ?_
  have a0 : s.get 0 = .sl (intsL l) := by simpa using hs 0
  have hg : s.m.gs = gs := by rw [hm]
  clear hs
  generalize hr0 : (([rowRV 2 ((ofA l).map wordC)], gs) : List RV × GS) = r0
  unfold b23
  refine aw_seq (aw_region_q r23_0 ?_)
  (repeat (first | simp [-invQ_normal, l23_0, a0, hg, hall, aBin, aUn, pow2_ne, pow2_ne_i, eqCells, eqCell, int_beq, splice, alloc1_loc, box1_loc, bld, aFill] | simp (disch := omega) only [wrap_i64, wrap_u64, tmod_nn, tdiv_nn, idx_w, idx_i, app_w]))
  refine aw_seq (aw_region_q r23_1 ?_)
  (repeat (first | simp [-invQ_normal, l23_1, a0, hg, hall, aBin, aUn, pow2_ne, pow2_ne_i, eqCells, eqCell, int_beq, splice, alloc1_loc, box1_loc, bld, aFill] | simp (disch := omega) only [wrap_i64, wrap_u64, tmod_nn, tdiv_nn, idx_w, idx_i, app_w]))
  refine wpC_row (vals := [.raw (.int .i64 (if l.all withinI then 0 else 2))]) (ev_Of l hl hin _ _ (Nat.le_refl _)).choose_spec (by simp) (by simp) (by simp) (by simp) (by simp) (by simp [plainArg, plain1, AVal.shared, AVal.shared.sharedOne, rawCell]) (fun xb2 mb2 rb2 gb2 fb2 => ⟨by simp, ?_⟩)
  (repeat (first | simp [-invQ_normal, a0, hg, hall, gb2, aBin, aUn, pow2_ne, pow2_ne_i, eqCells, eqCell, int_beq, splice, alloc1_loc, box1_loc, bld, aFill] | simp (disch := omega) only [wrap_i64, wrap_u64, tmod_nn, tdiv_nn, idx_w, idx_i, app_w]))
  refine aw_seq ?_
  refine aw_seq (aw_region_q r23_2 ?_)
  (repeat (first | simp [-invQ_normal, l23_2, a0, hg, hall, gb2, aBin, aUn, pow2_ne, pow2_ne_i, eqCells, eqCell, int_beq, splice, alloc1_loc, box1_loc, bld, aFill] | simp (disch := omega) only [wrap_i64, wrap_u64, tmod_nn, tdiv_nn, idx_w, idx_i, app_w]))
  refine aw_cond_0 (by (repeat (first | simp [-invQ_normal, a0, hg, hall, gb2, aBin, aUn, pow2_ne, pow2_ne_i, eqCells, eqCell, int_beq, splice, alloc1_loc, box1_loc, bld, aFill] | simp (disch := omega) only [wrap_i64, wrap_u64, tmod_nn, tdiv_nn, idx_w, idx_i, app_w]))) ?_
  refine aw_skip ?_
  try simp only [seqQ_normal, seqQ_exit, seqQ_ret, blockQ_normal, blockQ_ret, blockQ_exit, invQ_exit, invQ_ret, endQ_eq, if_true, reduceIte, Nat.reduceEqDiff, reduceCtorEq]
  refine aw_seq (aw_region_q r23_4 ?_)
  (repeat (first | simp [-invQ_normal, l23_4, a0, hg, hall, gb2, aBin, aUn, pow2_ne, pow2_ne_i, eqCells, eqCell, int_beq, splice, alloc1_loc, box1_loc, bld, aFill] | simp (disch := omega) only [wrap_i64, wrap_u64, tmod_nn, tdiv_nn, idx_w, idx_i, app_w]))
  refine aw_ret (retQ_rowV (gs := gs) (sz := 2) (a := xb2) [] (.inr rfl) (by (repeat (first | simp [-invQ_normal, resultOf, a0, hg, hall, gb2, aBin, aUn, pow2_ne, pow2_ne_i, eqCells, eqCell, int_beq, splice, alloc1_loc, box1_loc, bld, aFill] | simp (disch := omega) only [wrap_i64, wrap_u64, tmod_nn, tdiv_nn, idx_w, idx_i, app_w]))) rb2 (by simp) (by simp [givenOk, givenAs, AVal.fixed, rawCell]) (by (repeat (first | simp [-invQ_normal, a0, hg, hall, gb2, aBin, aUn, pow2_ne, pow2_ne_i, eqCells, eqCell, int_beq, splice, alloc1_loc, box1_loc, bld, aFill] | simp (disch := omega) only [wrap_i64, wrap_u64, tmod_nn, tdiv_nn, idx_w, idx_i, app_w]))) (by simp) (hr0.symm.trans ?_))
  rfl
set_option maxRecDepth 20000 in
set_option maxHeartbeats 1000000 in
theorem ev_BitsBack (w : List (Int × Int)) (l : List Int) (hb : bits64 w) (hin : ∀ n ∈ l, -9223372036854775808 ≤ n ∧ n < 9223372036854775808) (base : Nat) (gs : GS) (h0 : gs = ⟨⟨[]⟩, 0⟩) : Evals E 5 [.sl (w.map wordC), .sl (intsL l)] base gs ([.v (.raw (.bool true))], gs) := by
  refine evals_walk 137 #[.tmp 4] rfl (by kernel_rfl) b5_eq (by kernel_rfl) (by kernel_rfl) (by simp) fun s hs hm => ?_
  have a0 : s.get 0 = .sl (w.map wordC) := by simpa using hs 0
  have a1 : s.get 1 = .sl (intsL l) := by simpa using hs 1
  have hg : s.m.gs = gs := by rw [hm]
  clear hs
  generalize hr0 : (([.v (.raw (.bool true))], gs) : List RV × GS) = r0
  unfold b5
  refine aw_seq (aw_region_q r5_0 ?_)
  (repeat (first | simp [-invQ_normal, l5_0, a0, a1, hg, aBin, aUn, pow2_ne, pow2_ne_i, eqCells, eqCell, int_beq, splice, alloc1_loc, box1_loc, bld, aFill] | simp (disch := omega) only [wrap_i64, wrap_u64, tmod_nn, tdiv_nn, idx_w, idx_i, app_w]))
  refine aw_seq (aw_region_q r5_1 ?_)
  (repeat (first | simp [-invQ_normal, l5_1, a0, a1, hg, aBin, aUn, pow2_ne, pow2_ne_i, eqCells, eqCell, int_beq, splice, alloc1_loc, box1_loc, bld, aFill] | simp (disch := omega) only [wrap_i64, wrap_u64, tmod_nn, tdiv_nn, idx_w, idx_i, app_w]))
  refine wpC_vals (ev_alive s.m.gs (by rw [hg, h0])) (by simp) (by simp [isRow]) (by simp) (by first | simp | assumption) (by simp [plainArg, plain1, AVal.shared, AVal.shared.sharedOne, rawCell]) ⟨by simp, ?_⟩
  (repeat (first | simp [-invQ_normal, a0, a1, hg, aBin, aUn, pow2_ne, pow2_ne_i, eqCells, eqCell, int_beq, splice, alloc1_loc, box1_loc, bld, aFill] | simp (disch := omega) only [wrap_i64, wrap_u64, tmod_nn, tdiv_nn, idx_w, idx_i, app_w]))
  refine aw_seq ?_
  refine aw_seq (aw_region_q r5_2 ?_)
  (repeat (first | simp [-invQ_normal, l5_2, a0, a1, hg, aBin, aUn, pow2_ne, pow2_ne_i, eqCells, eqCell, int_beq, splice, alloc1_loc, box1_loc, bld, aFill] | simp (disch := omega) only [wrap_i64, wrap_u64, tmod_nn, tdiv_nn, idx_w, idx_i, app_w]))
  refine wpG_split ⟨_, rfl⟩ (fun g1 => ?_) (fun g1 => ?_)
  · simp only [AVal.raw.injEq, Value.bool.injEq, decide_eq_false_iff_not, decide_eq_true_eq, Bool.not_eq_true, Bool.not_eq_false, Bool.not_eq_eq_eq_not, Bool.not_true, Bool.not_false, Bool.and_eq_true, Bool.or_eq_true, Bool.or_eq_false_iff] at g1
    (repeat (first | simp [-invQ_normal, a0, a1, hg, g1, aBin, aUn, pow2_ne, pow2_ne_i, eqCells, eqCell, int_beq, splice, alloc1_loc, box1_loc, bld, aFill] | simp (disch := omega) only [wrap_i64, wrap_u64, tmod_nn, tdiv_nn, idx_w, idx_i, app_w]))
    refine aw_cond_1 (by (repeat (first | simp [-invQ_normal, a0, a1, hg, g1, aBin, aUn, pow2_ne, pow2_ne_i, eqCells, eqCell, int_beq, splice, alloc1_loc, box1_loc, bld, aFill] | simp (disch := omega) only [wrap_i64, wrap_u64, tmod_nn, tdiv_nn, idx_w, idx_i, app_w]))) ?_
    refine aw_seq (aw_region_q r5_3 ?_)
    (repeat (first | simp [-invQ_normal, l5_3, a0, a1, hg, g1, aBin, aUn, pow2_ne, pow2_ne_i, eqCells, eqCell, int_beq, splice, alloc1_loc, box1_loc, bld, aFill] | simp (disch := omega) only [wrap_i64, wrap_u64, tmod_nn, tdiv_nn, idx_w, idx_i, app_w]))
    refine aw_ret (retQ_vals (gs := gs) [.raw (.bool true)] (.inr rfl) ?_ (by simp [givenAs, AVal.fixed, rawCell]) (by (repeat (first | simp [-invQ_normal, a0, a1, hg, g1, aBin, aUn, pow2_ne, pow2_ne_i, eqCells, eqCell, int_beq, splice, alloc1_loc, box1_loc, bld, aFill] | simp (disch := omega) only [wrap_i64, wrap_u64, tmod_nn, tdiv_nn, idx_w, idx_i, app_w]))) (by rw [← hr0]; first | done | rfl))
    (repeat (first | simp [-invQ_normal, resultOf, a0, a1, hg, g1, aBin, aUn, pow2_ne, pow2_ne_i, eqCells, eqCell, int_beq, splice, alloc1_loc, box1_loc, bld, aFill] | simp (disch := omega) only [wrap_i64, wrap_u64, tmod_nn, tdiv_nn, idx_w, idx_i, app_w])) <;> (trace_state; sorry)
  · simp only [AVal.raw.injEq, Value.bool.injEq, decide_eq_false_iff_not, decide_eq_true_eq, Bool.not_eq_true, Bool.not_eq_false, Bool.not_eq_eq_eq_not, Bool.not_true, Bool.not_false, Bool.and_eq_true, Bool.or_eq_true, Bool.or_eq_false_iff] at g1
    (repeat (first | simp [-invQ_normal, a0, a1, hg, g1, aBin, aUn, pow2_ne, pow2_ne_i, eqCells, eqCell, int_beq, splice, alloc1_loc, box1_loc, bld, aFill] | simp (disch := omega) only [wrap_i64, wrap_u64, tmod_nn, tdiv_nn, idx_w, idx_i, app_w]))
    refine wpG_split ⟨_, rfl⟩ (fun g2 => ?_) (fun g2 => ?_)
    · simp only [AVal.raw.injEq, Value.bool.injEq, decide_eq_false_iff_not, decide_eq_true_eq, Bool.not_eq_true, Bool.not_eq_false, Bool.not_eq_eq_eq_not, Bool.not_true, Bool.not_false, Bool.and_eq_true, Bool.or_eq_true, Bool.or_eq_false_iff] at g2
      (repeat (first | simp [-invQ_normal, a0, a1, hg, g1, g2, aBin, aUn, pow2_ne, pow2_ne_i, eqCells, eqCell, int_beq, splice, alloc1_loc, box1_loc, bld, aFill] | simp (disch := omega) only [wrap_i64, wrap_u64, tmod_nn, tdiv_nn, idx_w, idx_i, app_w]))
      refine aw_cond_1 (by (repeat (first | simp [-invQ_normal, a0, a1, hg, g1, g2, aBin, aUn, pow2_ne, pow2_ne_i, eqCells, eqCell, int_beq, splice, alloc1_loc, box1_loc, bld, aFill] | simp (disch := omega) only [wrap_i64, wrap_u64, tmod_nn, tdiv_nn, idx_w, idx_i, app_w]))) ?_
      refine aw_seq (aw_region_q r5_3 ?_)
      (repeat (first | simp [-invQ_normal, l5_3, a0, a1, hg, g1, g2, aBin, aUn, pow2_ne, pow2_ne_i, eqCells, eqCell, int_beq, splice, alloc1_loc, box1_loc, bld, aFill] | simp (disch := omega) only [wrap_i64, wrap_u64, tmod_nn, tdiv_nn, idx_w, idx_i, app_w]))
      refine aw_ret (retQ_vals (gs := gs) [.raw (.bool true)] (.inr rfl) ?_ (by simp [givenAs, AVal.fixed, rawCell]) (by (repeat (first | simp [-invQ_normal, a0, a1, hg, g1, g2, aBin, aUn, pow2_ne, pow2_ne_i, eqCells, eqCell, int_beq, splice, alloc1_loc, box1_loc, bld, aFill] | simp (disch := omega) only [wrap_i64, wrap_u64, tmod_nn, tdiv_nn, idx_w, idx_i, app_w]))) (by rw [← hr0]; first | done | rfl))
      (repeat (first | simp [-invQ_normal, resultOf, a0, a1, hg, g1, g2, aBin, aUn, pow2_ne, pow2_ne_i, eqCells, eqCell, int_beq, splice, alloc1_loc, box1_loc, bld, aFill] | simp (disch := omega) only [wrap_i64, wrap_u64, tmod_nn, tdiv_nn, idx_w, idx_i, app_w])) <;> (trace_state; sorry)
    · simp only [AVal.raw.injEq, Value.bool.injEq, decide_eq_false_iff_not, decide_eq_true_eq, Bool.not_eq_true, Bool.not_eq_false, Bool.not_eq_eq_eq_not, Bool.not_true, Bool.not_false, Bool.and_eq_true, Bool.or_eq_true, Bool.or_eq_false_iff] at g2
      (repeat (first | simp [-invQ_normal, a0, a1, hg, g1, g2, aBin, aUn, pow2_ne, pow2_ne_i, eqCells, eqCell, int_beq, splice, alloc1_loc, box1_loc, bld, aFill] | simp (disch := omega) only [wrap_i64, wrap_u64, tmod_nn, tdiv_nn, idx_w, idx_i, app_w]))
      refine aw_cond_v ?_
      (repeat (first | simp [-invQ_normal, a0, a1, hg, g1, g2, aBin, aUn, pow2_ne, pow2_ne_i, eqCells, eqCell, int_beq, splice, alloc1_loc, box1_loc, bld, aFill] | simp (disch := omega) only [wrap_i64, wrap_u64, tmod_nn, tdiv_nn, idx_w, idx_i, app_w]))
      refine condV_split ⟨_, rfl⟩ (fun c3 => ?_) (fun c3 => ?_)
      · simp only [AVal.raw.injEq, Value.bool.injEq, decide_eq_false_iff_not, decide_eq_true_eq, Bool.not_eq_true, Bool.not_eq_false, Bool.not_eq_eq_eq_not, Bool.not_true, Bool.not_false, Bool.and_eq_true, Bool.or_eq_true, Bool.or_eq_false_iff] at c3
        refine aw_seq (aw_region_q r5_3 ?_)
        (repeat (first | simp [-invQ_normal, l5_3, a0, a1, hg, g1, g2, c3, aBin, aUn, pow2_ne, pow2_ne_i, eqCells, eqCell, int_beq, splice, alloc1_loc, box1_loc, bld, aFill] | simp (disch := omega) only [wrap_i64, wrap_u64, tmod_nn, tdiv_nn, idx_w, idx_i, app_w]))
        refine aw_ret (retQ_vals (gs := gs) [.raw (.bool true)] (.inr rfl) ?_ (by simp [givenAs, AVal.fixed, rawCell]) (by (repeat (first | simp [-invQ_normal, a0, a1, hg, g1, g2, c3, aBin, aUn, pow2_ne, pow2_ne_i, eqCells, eqCell, int_beq, splice, alloc1_loc, box1_loc, bld, aFill] | simp (disch := omega) only [wrap_i64, wrap_u64, tmod_nn, tdiv_nn, idx_w, idx_i, app_w]))) (by rw [← hr0]; first | done | rfl))
        (repeat (first | simp [-invQ_normal, resultOf, a0, a1, hg, g1, g2, c3, aBin, aUn, pow2_ne, pow2_ne_i, eqCells, eqCell, int_beq, splice, alloc1_loc, box1_loc, bld, aFill] | simp (disch := omega) only [wrap_i64, wrap_u64, tmod_nn, tdiv_nn, idx_w, idx_i, app_w])) <;> (trace_state; sorry)
      · simp only [AVal.raw.injEq, Value.bool.injEq, decide_eq_false_iff_not, decide_eq_true_eq, Bool.not_eq_true, Bool.not_eq_false, Bool.not_eq_eq_eq_not, Bool.not_true, Bool.not_false, Bool.and_eq_true, Bool.or_eq_true, Bool.or_eq_false_iff] at c3
        refine aw_skip ?_
        try simp only [seqQ_normal, seqQ_exit, seqQ_ret, blockQ_normal, blockQ_ret, blockQ_exit, invQ_exit, invQ_ret, endQ_eq, if_true, reduceIte, Nat.reduceEqDiff, reduceCtorEq]
        refine aw_seq (aw_region_q r5_4 ?_)
        (repeat (first | simp [-invQ_normal, l5_4, a0, a1, hg, g1, g2, c3, aBin, aUn, pow2_ne, pow2_ne_i, eqCells, eqCell, int_beq, splice, alloc1_loc, box1_loc, bld, aFill] | simp (disch := omega) only [wrap_i64, wrap_u64, tmod_nn, tdiv_nn, idx_w, idx_i, app_w]))
        refine wpC_vals (ev_List w (by omega) hb _ _) (by simp) (by simp [isRow]) (by simp) (by first | simp | assumption) (by simp [plainArg, plain1, AVal.shared, AVal.shared.sharedOne, rawCell]) ⟨by simp, ?_⟩
        (repeat (first | simp [-invQ_normal, a0, a1, hg, g1, g2, c3, aBin, aUn, pow2_ne, pow2_ne_i, eqCells, eqCell, int_beq, splice, alloc1_loc, box1_loc, bld, aFill] | simp (disch := omega) only [wrap_i64, wrap_u64, tmod_nn, tdiv_nn, idx_w, idx_i, app_w]))
        refine aw_seq ?_
        refine aw_seq (aw_region_q r5_5 ?_)
        (repeat (first | simp [-invQ_normal, l5_5, a0, a1, hg, g1, g2, c3, aBin, aUn, pow2_ne, pow2_ne_i, eqCells, eqCell, int_beq, splice, alloc1_loc, box1_loc, bld, aFill] | simp (disch := omega) only [wrap_i64, wrap_u64, tmod_nn, tdiv_nn, idx_w, idx_i, app_w]))
        refine wpG_split ⟨_, rfl⟩ (fun g4 => ?_) (fun g4 => ?_)
        · simp only [AVal.raw.injEq, Value.bool.injEq, decide_eq_false_iff_not, decide_eq_true_eq, Bool.not_eq_true, Bool.not_eq_false, Bool.not_eq_eq_eq_not, Bool.not_true, Bool.not_false, Bool.and_eq_true, Bool.or_eq_true, Bool.or_eq_false_iff] at g4
          have hgw : goodI (-1) w = true := g4
          have hsame := of_list hgw hb
          (repeat (first | simp [-invQ_normal, a0, a1, hg, g1, g2, c3, g4, hgw, hsame, aBin, aUn, pow2_ne, pow2_ne_i, eqCells, eqCell, int_beq, splice, alloc1_loc, box1_loc, bld, aFill] | simp (disch := omega) only [wrap_i64, wrap_u64, tmod_nn, tdiv_nn, idx_w, idx_i, app_w]))
          refine wpC_vals (ev_of (listI w) (list_len10 (by omega)) (list_range hgw) (list_within hgw) _ _) (by simp) (by simp [isRow]) (by simp) (by first | simp | assumption) (by simp [plainArg, plain1, AVal.shared, AVal.shared.sharedOne, rawCell]) ⟨by simp, ?_⟩
          (repeat (first | simp [-invQ_normal, a0, a1, hg, g1, g2, c3, g4, hgw, hsame, aBin, aUn, pow2_ne, pow2_ne_i, eqCells, eqCell, int_beq, splice, alloc1_loc, box1_loc, bld, aFill] | simp (disch := omega) only [wrap_i64, wrap_u64, tmod_nn, tdiv_nn, idx_w, idx_i, app_w]))
          refine wpC_vals (ev_Same _ _ (by omega) _ _) (by simp) (by simp [isRow]) (by simp) (by first | simp | assumption) (by simp [plainArg, plain1, AVal.shared, AVal.shared.sharedOne, rawCell]) ⟨by simp, ?_⟩
          (repeat (first | simp [-invQ_normal, a0, a1, hg, g1, g2, c3, g4, hgw, hsame, aBin, aUn, pow2_ne, pow2_ne_i, eqCells, eqCell, int_beq, splice, alloc1_loc, box1_loc, bld, aFill] | simp (disch := omega) only [wrap_i64, wrap_u64, tmod_nn, tdiv_nn, idx_w, idx_i, app_w]))
          refine aw_cond_v ?_
          (repeat (first | simp [-invQ_normal, a0, a1, hg, g1, g2, c3, g4, hgw, hsame, aBin, aUn, pow2_ne, pow2_ne_i, eqCells, eqCell, int_beq, splice, alloc1_loc, box1_loc, bld, aFill] | simp (disch := omega) only [wrap_i64, wrap_u64, tmod_nn, tdiv_nn, idx_w, idx_i, app_w]))
          refine condV_split ⟨_, rfl⟩ (fun c5 => ?_) (fun c5 => ?_)
          · simp only [AVal.raw.injEq, Value.bool.injEq, decide_eq_false_iff_not, decide_eq_true_eq, Bool.not_eq_true, Bool.not_eq_false, Bool.not_eq_eq_eq_not, Bool.not_true, Bool.not_false, Bool.and_eq_true, Bool.or_eq_true, Bool.or_eq_false_iff] at c5
            refine aw_seq (aw_region_q r5_6 ?_)
            (repeat (first | simp [-invQ_normal, l5_6, a0, a1, hg, g1, g2, c3, g4, hgw, hsame, c5, aBin, aUn, pow2_ne, pow2_ne_i, eqCells, eqCell, int_beq, splice, alloc1_loc, box1_loc, bld, aFill] | simp (disch := omega) only [wrap_i64, wrap_u64, tmod_nn, tdiv_nn, idx_w, idx_i, app_w]))
            refine aw_ret (retQ_vals (gs := gs) [.raw (.bool true)] (.inr rfl) ?_ (by simp [givenAs, AVal.fixed, rawCell]) (by (repeat (first | simp [-invQ_normal, a0, a1, hg, g1, g2, c3, g4, hgw, hsame, c5, aBin, aUn, pow2_ne, pow2_ne_i, eqCells, eqCell, int_beq, splice, alloc1_loc, box1_loc, bld, aFill] | simp (disch := omega) only [wrap_i64, wrap_u64, tmod_nn, tdiv_nn, idx_w, idx_i, app_w]))) (by rw [← hr0]; first | done | rfl))
            (repeat (first | simp [-invQ_normal, resultOf, a0, a1, hg, g1, g2, c3, g4, hgw, hsame, c5, aBin, aUn, pow2_ne, pow2_ne_i, eqCells, eqCell, int_beq, splice, alloc1_loc, box1_loc, bld, aFill] | simp (disch := omega) only [wrap_i64, wrap_u64, tmod_nn, tdiv_nn, idx_w, idx_i, app_w])) <;> (trace_state; sorry)
          · simp only [AVal.raw.injEq, Value.bool.injEq, decide_eq_false_iff_not, decide_eq_true_eq, Bool.not_eq_true, Bool.not_eq_false, Bool.not_eq_eq_eq_not, Bool.not_true, Bool.not_false, Bool.and_eq_true, Bool.or_eq_true, Bool.or_eq_false_iff] at c5
            refine aw_skip ?_
            try simp only [seqQ_normal, seqQ_exit, seqQ_ret, blockQ_normal, blockQ_ret, blockQ_exit, invQ_exit, invQ_ret, endQ_eq, if_true, reduceIte, Nat.reduceEqDiff, reduceCtorEq]
            refine aw_seq (aw_region_q r5_7 ?_)
            obtain ⟨hog, hob⟩ := ofA_good l
            have hML : (listI (ofA l)).length ≤ 2000000 := (by have := listI_len (ofA l); have := good_len hog; omega)
            (repeat (first | simp [-invQ_normal, l5_7, a0, a1, hg, g1, g2, c3, g4, hgw, hsame, c5, hog, aBin, aUn, pow2_ne, pow2_ne_i, eqCells, eqCell, int_beq, splice, alloc1_loc, box1_loc, bld, aFill] | simp (disch := omega) only [wrap_i64, wrap_u64, tmod_nn, tdiv_nn, idx_w, idx_i, app_w]))
            refine wpC_vals (ev_Of l (by omega) hin _ _ (Nat.le_refl _)).choose_spec (by simp) (by simp [isRow]) (by simp) (by first | simp | assumption) (by simp [plainArg, plain1, AVal.shared, AVal.shared.sharedOne, rawCell]) ⟨by simp, ?_⟩
            (repeat (first | simp [-invQ_normal, a0, a1, hg, g1, g2, c3, g4, hgw, hsame, c5, hog, aBin, aUn, pow2_ne, pow2_ne_i, eqCells, eqCell, int_beq, splice, alloc1_loc, box1_loc, bld, aFill] | simp (disch := omega) only [wrap_i64, wrap_u64, tmod_nn, tdiv_nn, idx_w, idx_i, app_w]))
            refine aw_seq ?_
            refine aw_seq (aw_region_q r5_8 ?_)
            (repeat (first | simp [-invQ_normal, l5_8, a0, a1, hg, g1, g2, c3, g4, hgw, hsame, c5, hog, aBin, aUn, pow2_ne, pow2_ne_i, eqCells, eqCell, int_beq, splice, alloc1_loc, box1_loc, bld, aFill] | simp (disch := omega) only [wrap_i64, wrap_u64, tmod_nn, tdiv_nn, idx_w, idx_i, app_w]))
            refine aw_cond_v ?_
            (repeat (first | simp [-invQ_normal, a0, a1, hg, g1, g2, c3, g4, hgw, hsame, c5, hog, aBin, aUn, pow2_ne, pow2_ne_i, eqCells, eqCell, int_beq, splice, alloc1_loc, box1_loc, bld, aFill] | simp (disch := omega) only [wrap_i64, wrap_u64, tmod_nn, tdiv_nn, idx_w, idx_i, app_w]))
            refine condV_split ⟨_, rfl⟩ (fun c6 => ?_) (fun c6 => ?_)
            · simp only [AVal.raw.injEq, Value.bool.injEq, decide_eq_false_iff_not, decide_eq_true_eq, Bool.not_eq_true, Bool.not_eq_false, Bool.not_eq_eq_eq_not, Bool.not_true, Bool.not_false, Bool.and_eq_true, Bool.or_eq_true, Bool.or_eq_false_iff] at c6
              have hall : l.all withinI = false := (by first | exact all_not c6 | exact Bool.eq_false_iff.2 c6| simpa using c6)
              have hnil : ofA l = [] := (by unfold ofA; rw [hall]; rfl)
              refine aw_seq (aw_region_q r5_9 ?_)
              (repeat (first | simp [-invQ_normal, l5_9, a0, a1, hg, g1, g2, c3, g4, hgw, hsame, c5, hog, c6, hnil, aBin, aUn, pow2_ne, pow2_ne_i, eqCells, eqCell, int_beq, splice, alloc1_loc, box1_loc, bld, aFill] | simp (disch := omega) only [wrap_i64, wrap_u64, tmod_nn, tdiv_nn, idx_w, idx_i, app_w]))
              refine aw_ret (retQ_vals (gs := gs) [.raw (.bool true)] (.inr rfl) ?_ (by simp [givenAs, AVal.fixed, rawCell]) (by (repeat (first | simp [-invQ_normal, a0, a1, hg, g1, g2, c3, g4, hgw, hsame, c5, hog, c6, hnil, aBin, aUn, pow2_ne, pow2_ne_i, eqCells, eqCell, int_beq, splice, alloc1_loc, box1_loc, bld, aFill] | simp (disch := omega) only [wrap_i64, wrap_u64, tmod_nn, tdiv_nn, idx_w, idx_i, app_w]))) (by rw [← hr0]; first | done | rfl))
              (repeat (first | simp [-invQ_normal, resultOf, a0, a1, hg, g1, g2, c3, g4, hgw, hsame, c5, hog, c6, hnil, aBin, aUn, pow2_ne, pow2_ne_i, eqCells, eqCell, int_beq, splice, alloc1_loc, box1_loc, bld, aFill] | simp (disch := omega) only [wrap_i64, wrap_u64, tmod_nn, tdiv_nn, idx_w, idx_i, app_w])) <;> (trace_state; sorry)
            · simp only [AVal.raw.injEq, Value.bool.injEq, decide_eq_false_iff_not, decide_eq_true_eq, Bool.not_eq_true, Bool.not_eq_false, Bool.not_eq_eq_eq_not, Bool.not_true, Bool.not_false, Bool.and_eq_true, Bool.or_eq_true, Bool.or_eq_false_iff] at c6
              have hall : l.all withinI = true := (by simpa using c6)
              refine aw_skip ?_
              try simp only [seqQ_normal, seqQ_exit, seqQ_ret, blockQ_normal, blockQ_ret, blockQ_exit, invQ_exit, invQ_ret, endQ_eq, if_true, reduceIte, Nat.reduceEqDiff, reduceCtorEq]
              refine aw_seq (aw_region_q r5_10 ?_)
              (repeat (first | simp [-invQ_normal, l5_10, a0, a1, hg, g1, g2, c3, g4, hgw, hsame, c5, hog, c6, hall, aBin, aUn, pow2_ne, pow2_ne_i, eqCells, eqCell, int_beq, splice, alloc1_loc, box1_loc, bld, aFill] | simp (disch := omega) only [wrap_i64, wrap_u64, tmod_nn, tdiv_nn, idx_w, idx_i, app_w]))
              refine wpC_vals (ev_List (ofA l) (good_len hog) hob _ _) (by simp) (by simp [isRow]) (by simp) (by first | simp | assumption) (by simp [plainArg, plain1, AVal.shared, AVal.shared.sharedOne, rawCell]) ⟨by simp, ?_⟩
              (repeat (first | simp [-invQ_normal, a0, a1, hg, g1, g2, c3, g4, hgw, hsame, c5, hog, c6, hall, aBin, aUn, pow2_ne, pow2_ne_i, eqCells, eqCell, int_beq, splice, alloc1_loc, box1_loc, bld, aFill] | simp (disch := omega) only [wrap_i64, wrap_u64, tmod_nn, tdiv_nn, idx_w, idx_i, app_w]))
              refine aw_seq ?_
              refine aw_seq (aw_region_q r5_11 ?_)
              (repeat (first | simp [-invQ_normal, l5_11, a0, a1, hg, g1, g2, c3, g4, hgw, hsame, c5, hog, c6, hall, aBin, aUn, pow2_ne, pow2_ne_i, eqCells, eqCell, int_beq, splice, alloc1_loc, box1_loc, bld, aFill] | simp (disch := omega) only [wrap_i64, wrap_u64, tmod_nn, tdiv_nn, idx_w, idx_i, app_w]))
              refine aw_block ?_
              obtain ⟨I8, hI8⟩ : ∃ I : Nat → St → Prop, I = fun k s => ∃ (i : Nat), k = (listI (ofA l)).length - i ∧ s.get 1 = .sl (intsL l) ∧ s.get 5 = .raw (.bool true) ∧ s.get 8 = .sl ((ofA l).map wordC) ∧ s.get 10 = .sl (intsL (listI (ofA l))) ∧ s.get 11 = .raw (.int .i64 0) ∧ s.get 12 = .raw (.int .i64 i) ∧ s.m.gs = gs ∧ (i ≤ (listI (ofA l)).length) := ⟨_, rfl⟩
              refine aw_inv2 I8 ?_ ?_
              · rw [hI8]
                refine ⟨_, 0, rfl, ?_⟩
                (repeat (first | simp [-invQ_normal, a0, a1, hg, g1, g2, c3, g4, hgw, hsame, c5, hog, c6, hall, aBin, aUn, pow2_ne, pow2_ne_i, eqCells, eqCell, int_beq, splice, alloc1_loc, box1_loc, bld, aFill] | simp (disch := omega) only [wrap_i64, wrap_u64, tmod_nn, tdiv_nn, idx_w, idx_i, app_w])) <;> (omega)
              · intro k s hI0
                rw [hI8] at hI0
                obtain ⟨i, k9, i10_1, i11_5, i12_8, i13_10, i14_11, i15_12, hg, hi⟩ := hI0
                unfold b5_L2
                refine aw_seq ?_
                refine aw_seq (aw_region_q r5_12 ?_)
                (repeat (first | simp [-invQ_normal, l5_12, i10_1, i11_5, i12_8, i13_10, i14_11, i15_12, hg, aBin, aUn, pow2_ne, pow2_ne_i, eqCells, eqCell, int_beq, splice, alloc1_loc, box1_loc, bld, aFill] | simp (disch := omega) only [wrap_i64, wrap_u64, tmod_nn, tdiv_nn, idx_w, idx_i, app_w]))
                refine aw_cond_v ?_
                (repeat (first | simp [-invQ_normal, i10_1, i11_5, i12_8, i13_10, i14_11, i15_12, hg, aBin, aUn, pow2_ne, pow2_ne_i, eqCells, eqCell, int_beq, splice, alloc1_loc, box1_loc, bld, aFill] | simp (disch := omega) only [wrap_i64, wrap_u64, tmod_nn, tdiv_nn, idx_w, idx_i, app_w]))
                refine condV_split ⟨_, rfl⟩ (fun c17 => ?_) (fun c17 => ?_)
                · simp only [AVal.raw.injEq, Value.bool.injEq, decide_eq_false_iff_not, decide_eq_true_eq, Bool.not_eq_true, Bool.not_eq_false, Bool.not_eq_eq_eq_not, Bool.not_true, Bool.not_false, Bool.and_eq_true, Bool.or_eq_true, Bool.or_eq_false_iff] at c17
                  refine aw_skip ?_
                  try simp only [seqQ_normal, seqQ_exit, seqQ_ret, blockQ_normal, blockQ_ret, blockQ_exit, invQ_exit, invQ_ret, endQ_eq, if_true, reduceIte, Nat.reduceEqDiff, reduceCtorEq]
                  refine aw_seq ?_
                  refine aw_block ?_
                  refine aw_seq (aw_region_q r5_14 ?_)
                  (repeat (first | simp [-invQ_normal, l5_14, i10_1, i11_5, i12_8, i13_10, i14_11, i15_12, hg, c17, aBin, aUn, pow2_ne, pow2_ne_i, eqCells, eqCell, int_beq, splice, alloc1_loc, box1_loc, bld, aFill] | simp (disch := omega) only [wrap_i64, wrap_u64, tmod_nn, tdiv_nn, idx_w, idx_i, app_w]))
                  refine aw_seq ?_
                  refine aw_seq (aw_region_q r5_15 ?_)
                  (repeat (first | simp [-invQ_normal, l5_15, i10_1, i11_5, i12_8, i13_10, i14_11, i15_12, hg, c17, aBin, aUn, pow2_ne, pow2_ne_i, eqCells, eqCell, int_beq, splice, alloc1_loc, box1_loc, bld, aFill] | simp (disch := omega) only [wrap_i64, wrap_u64, tmod_nn, tdiv_nn, idx_w, idx_i, app_w]))
                  refine aw_block ?_
                  obtain ⟨I19, hI19⟩ : ∃ I : Nat → St → Prop, I = fun k s => ∃ (n : Nat), k = l.length - n ∧ s.get 1 = .sl (intsL l) ∧ s.get 5 = .raw (.bool true) ∧ s.get 8 = .sl ((ofA l).map wordC) ∧ s.get 10 = .sl (intsL (listI (ofA l))) ∧ s.get 11 = .raw (.int .i64 0) ∧ s.get 14 = .raw (.int .i64 n) ∧ s.get 13 = .raw (.bool (decide ((listI (ofA l))[i] ∈ l.take n))) ∧ s.get 12 = .raw (.int .i64 i) ∧ s.m.gs = gs ∧ (n ≤ l.length) := ⟨_, rfl⟩
                  refine aw_inv2 I19 ?_ ?_
                  · rw [hI19]
                    refine ⟨_, 0, rfl, ?_⟩
                    (repeat (first | simp [-invQ_normal, i10_1, i11_5, i12_8, i13_10, i14_11, i15_12, hg, c17, aBin, aUn, pow2_ne, pow2_ne_i, eqCells, eqCell, int_beq, splice, alloc1_loc, box1_loc, bld, aFill] | simp (disch := omega) only [wrap_i64, wrap_u64, tmod_nn, tdiv_nn, idx_w, idx_i, app_w])) <;> (omega)
                  · intro k s hI0
                    rw [hI19] at hI0
                    obtain ⟨n, k20, i21_1, i22_5, i23_8, i24_10, i25_11, i26_14, i27_13, i28_12, hg, hn⟩ := hI0
                    unfold b5_L1
                    refine aw_seq ?_
                    refine aw_seq (aw_region_q r5_16 ?_)
                    (repeat (first | simp [-invQ_normal, l5_16, i21_1, i22_5, i23_8, i24_10, i25_11, i26_14, i27_13, i28_12, hg, aBin, aUn, pow2_ne, pow2_ne_i, eqCells, eqCell, int_beq, splice, alloc1_loc, box1_loc, bld, aFill] | simp (disch := omega) only [wrap_i64, wrap_u64, tmod_nn, tdiv_nn, idx_w, idx_i, app_w]))
                    refine aw_cond_v ?_
                    (repeat (first | simp [-invQ_normal, i21_1, i22_5, i23_8, i24_10, i25_11, i26_14, i27_13, i28_12, hg, aBin, aUn, pow2_ne, pow2_ne_i, eqCells, eqCell, int_beq, splice, alloc1_loc, box1_loc, bld, aFill] | simp (disch := omega) only [wrap_i64, wrap_u64, tmod_nn, tdiv_nn, idx_w, idx_i, app_w]))
                    refine condV_split ⟨_, rfl⟩ (fun c30 => ?_) (fun c30 => ?_)
                    · simp only [AVal.raw.injEq, Value.bool.injEq, decide_eq_false_iff_not, decide_eq_true_eq, Bool.not_eq_true, Bool.not_eq_false, Bool.not_eq_eq_eq_not, Bool.not_true, Bool.not_false, Bool.and_eq_true, Bool.or_eq_true, Bool.or_eq_false_iff] at c30
                      refine aw_skip ?_
                      try simp only [seqQ_normal, seqQ_exit, seqQ_ret, blockQ_normal, blockQ_ret, blockQ_exit, invQ_exit, invQ_ret, endQ_eq, if_true, reduceIte, Nat.reduceEqDiff, reduceCtorEq]
                      refine aw_seq ?_
                      refine aw_block ?_
                      refine aw_region_d r5_18 ?_
                      (repeat (first | simp [-invQ_normal, l5_18, i21_1, i22_5, i23_8, i24_10, i25_11, i26_14, i27_13, i28_12, hg, c30, aBin, aUn, pow2_ne, pow2_ne_i, eqCells, eqCell, int_beq, splice, alloc1_loc, box1_loc, bld, aFill] | simp (disch := omega) only [wrap_i64, wrap_u64, tmod_nn, tdiv_nn, idx_w, idx_i, app_w]))
                      refine wpG_split ⟨_, rfl⟩ (fun g31 => ?_) (fun g31 => ?_)
                      · simp only [AVal.raw.injEq, Value.bool.injEq, decide_eq_false_iff_not, decide_eq_true_eq, Bool.not_eq_true, Bool.not_eq_false, Bool.not_eq_eq_eq_not, Bool.not_true, Bool.not_false, Bool.and_eq_true, Bool.or_eq_true, Bool.or_eq_false_iff] at g31
                        (repeat (first | simp [-invQ_normal, i21_1, i22_5, i23_8, i24_10, i25_11, i26_14, i27_13, i28_12, hg, c30, g31, aBin, aUn, pow2_ne, pow2_ne_i, eqCells, eqCell, int_beq, splice, alloc1_loc, box1_loc, bld, aFill] | simp (disch := omega) only [wrap_i64, wrap_u64, tmod_nn, tdiv_nn, idx_w, idx_i, app_w]))
                        refine aw_region_q r5_17 ?_
                        (repeat (first | simp [-invQ_normal, l5_17, i21_1, i22_5, i23_8, i24_10, i25_11, i26_14, i27_13, i28_12, hg, c30, g31, aBin, aUn, pow2_ne, pow2_ne_i, eqCells, eqCell, int_beq, splice, alloc1_loc, box1_loc, bld, aFill] | simp (disch := omega) only [wrap_i64, wrap_u64, tmod_nn, tdiv_nn, idx_w, idx_i, app_w]))
                        -- cont 0: t73=T t13=T
                        simp only [invQ_normal]
                        rw [hI19]
                        refine ⟨_, ?_, n + 1, rfl, ?_⟩
                        · omega
                        · (repeat (first | simp [-invQ_normal, i21_1, i22_5, i23_8, i24_10, i25_11, i26_14, i27_13, i28_12, hg, c30, g31, aBin, aUn, pow2_ne, pow2_ne_i, eqCells, eqCell, int_beq, splice, alloc1_loc, box1_loc, bld, aFill] | simp (disch := omega) only [wrap_i64, wrap_u64, tmod_nn, tdiv_nn, idx_w, idx_i, app_w])) <;> (rw [mem_take_s (show n < l.length by omega)]; first | exact ⟨.inl (by assumption), by omega⟩ | exact ⟨⟨fun h => .inr h.symm, fun h => h.elim (fun h => absurd h (by assumption)) Eq.symm⟩, by omega⟩)
                      · simp only [AVal.raw.injEq, Value.bool.injEq, decide_eq_false_iff_not, decide_eq_true_eq, Bool.not_eq_true, Bool.not_eq_false, Bool.not_eq_eq_eq_not, Bool.not_true, Bool.not_false, Bool.and_eq_true, Bool.or_eq_true, Bool.or_eq_false_iff] at g31
                        (repeat (first | simp [-invQ_normal, i21_1, i22_5, i23_8, i24_10, i25_11, i26_14, i27_13, i28_12, hg, c30, g31, aBin, aUn, pow2_ne, pow2_ne_i, eqCells, eqCell, int_beq, splice, alloc1_loc, box1_loc, bld, aFill] | simp (disch := omega) only [wrap_i64, wrap_u64, tmod_nn, tdiv_nn, idx_w, idx_i, app_w]))
                        refine aw_region_q r5_17 ?_
                        (repeat (first | simp [-invQ_normal, l5_17, i21_1, i22_5, i23_8, i24_10, i25_11, i26_14, i27_13, i28_12, hg, c30, g31, aBin, aUn, pow2_ne, pow2_ne_i, eqCells, eqCell, int_beq, splice, alloc1_loc, box1_loc, bld, aFill] | simp (disch := omega) only [wrap_i64, wrap_u64, tmod_nn, tdiv_nn, idx_w, idx_i, app_w]))
                        -- cont 1: t73=T t13=F
                        simp only [invQ_normal]
                        rw [hI19]
                        refine ⟨_, ?_, n + 1, rfl, ?_⟩
                        · omega
                        · (repeat (first | simp [-invQ_normal, i21_1, i22_5, i23_8, i24_10, i25_11, i26_14, i27_13, i28_12, hg, c30, g31, aBin, aUn, pow2_ne, pow2_ne_i, eqCells, eqCell, int_beq, splice, alloc1_loc, box1_loc, bld, aFill] | simp (disch := omega) only [wrap_i64, wrap_u64, tmod_nn, tdiv_nn, idx_w, idx_i, app_w])) <;> (rw [mem_take_s (show n < l.length by omega)]; first | exact ⟨.inl (by assumption), by omega⟩ | exact ⟨⟨fun h => .inr h.symm, fun h => h.elim (fun h => absurd h (by assumption)) Eq.symm⟩, by omega⟩)
                    · simp only [AVal.raw.injEq, Value.bool.injEq, decide_eq_false_iff_not, decide_eq_true_eq, Bool.not_eq_true, Bool.not_eq_false, Bool.not_eq_eq_eq_not, Bool.not_true, Bool.not_false, Bool.and_eq_true, Bool.or_eq_true, Bool.or_eq_false_iff] at c30
                      refine aw_exit ?_
                      try simp only [seqQ_normal, seqQ_exit, seqQ_ret, blockQ_normal, blockQ_ret, blockQ_exit, invQ_exit, invQ_ret, endQ_eq, if_true, reduceIte, Nat.reduceEqDiff, reduceCtorEq]
                      refine aw_seq (aw_region_d r5_19 ?_)
                      have hM : (listI (ofA l))[i] ∈ l.take n := (by rw [List.take_of_length_le (by omega)]; exact list_sub hall (List.getElem_mem _))
                      (repeat (first | simp [-invQ_normal, l5_19, i21_1, i22_5, i23_8, i24_10, i25_11, i26_14, i27_13, i28_12, hg, c30, hM, aBin, aUn, pow2_ne, pow2_ne_i, eqCells, eqCell, int_beq, splice, alloc1_loc, box1_loc, bld, aFill] | simp (disch := omega) only [wrap_i64, wrap_u64, tmod_nn, tdiv_nn, idx_w, idx_i, app_w]))
                      refine wpG_split ⟨_, rfl⟩ (fun g32 => ?_) (fun g32 => ?_)
                      · simp only [AVal.raw.injEq, Value.bool.injEq, decide_eq_false_iff_not, decide_eq_true_eq, Bool.not_eq_true, Bool.not_eq_false, Bool.not_eq_eq_eq_not, Bool.not_true, Bool.not_false, Bool.and_eq_true, Bool.or_eq_true, Bool.or_eq_false_iff] at g32
                        have hup := list_up hog (show i < (listI (ofA l)).length by omega) (by omega)
                        have hup2 : ¬ (listI (ofA l))[i] ≤ (listI (ofA l))[i - 1] := (by omega)
                        (repeat (first | simp [-invQ_normal, i21_1, i22_5, i23_8, i24_10, i25_11, i26_14, i27_13, i28_12, hg, c30, hM, g32, hup2, aBin, aUn, pow2_ne, pow2_ne_i, eqCells, eqCell, int_beq, splice, alloc1_loc, box1_loc, bld, aFill] | simp (disch := omega) only [wrap_i64, wrap_u64, tmod_nn, tdiv_nn, idx_w, idx_i, app_w]))
                        refine aw_cond_0 (by (repeat (first | simp [-invQ_normal, i21_1, i22_5, i23_8, i24_10, i25_11, i26_14, i27_13, i28_12, hg, c30, hM, g32, hup2, aBin, aUn, pow2_ne, pow2_ne_i, eqCells, eqCell, int_beq, splice, alloc1_loc, box1_loc, bld, aFill] | simp (disch := omega) only [wrap_i64, wrap_u64, tmod_nn, tdiv_nn, idx_w, idx_i, app_w]))) ?_
                        refine aw_skip ?_
                        try simp only [seqQ_normal, seqQ_exit, seqQ_ret, blockQ_normal, blockQ_ret, blockQ_exit, invQ_exit, invQ_ret, endQ_eq, if_true, reduceIte, Nat.reduceEqDiff, reduceCtorEq]
                        refine aw_region_q r5_13 ?_
                        (repeat (first | simp [-invQ_normal, l5_13, i21_1, i22_5, i23_8, i24_10, i25_11, i26_14, i27_13, i28_12, hg, c30, hM, g32, hup2, aBin, aUn, pow2_ne, pow2_ne_i, eqCells, eqCell, int_beq, splice, alloc1_loc, box1_loc, bld, aFill] | simp (disch := omega) only [wrap_i64, wrap_u64, tmod_nn, tdiv_nn, idx_w, idx_i, app_w]))
                        -- cont 0: t73=F t13=T t92=T
                        simp only [invQ_normal]
                        rw [hI8]
                        refine ⟨_, ?_, i + 1, rfl, ?_⟩
                        · omega
                        · (repeat (first | simp [-invQ_normal, i21_1, i22_5, i23_8, i24_10, i25_11, i26_14, i27_13, i28_12, hg, c30, hM, g32, hup2, aBin, aUn, pow2_ne, pow2_ne_i, eqCells, eqCell, int_beq, splice, alloc1_loc, box1_loc, bld, aFill] | simp (disch := omega) only [wrap_i64, wrap_u64, tmod_nn, tdiv_nn, idx_w, idx_i, app_w])) <;> (omega)
                      · simp only [AVal.raw.injEq, Value.bool.injEq, decide_eq_false_iff_not, decide_eq_true_eq, Bool.not_eq_true, Bool.not_eq_false, Bool.not_eq_eq_eq_not, Bool.not_true, Bool.not_false, Bool.and_eq_true, Bool.or_eq_true, Bool.or_eq_false_iff] at g32
                        (repeat (first | simp [-invQ_normal, i21_1, i22_5, i23_8, i24_10, i25_11, i26_14, i27_13, i28_12, hg, c30, hM, g32, aBin, aUn, pow2_ne, pow2_ne_i, eqCells, eqCell, int_beq, splice, alloc1_loc, box1_loc, bld, aFill] | simp (disch := omega) only [wrap_i64, wrap_u64, tmod_nn, tdiv_nn, idx_w, idx_i, app_w]))
                        refine aw_cond_0 (by (repeat (first | simp [-invQ_normal, i21_1, i22_5, i23_8, i24_10, i25_11, i26_14, i27_13, i28_12, hg, c30, hM, g32, aBin, aUn, pow2_ne, pow2_ne_i, eqCells, eqCell, int_beq, splice, alloc1_loc, box1_loc, bld, aFill] | simp (disch := omega) only [wrap_i64, wrap_u64, tmod_nn, tdiv_nn, idx_w, idx_i, app_w]))) ?_
                        refine aw_skip ?_
                        try simp only [seqQ_normal, seqQ_exit, seqQ_ret, blockQ_normal, blockQ_ret, blockQ_exit, invQ_exit, invQ_ret, endQ_eq, if_true, reduceIte, Nat.reduceEqDiff, reduceCtorEq]
                        refine aw_region_q r5_13 ?_
                        (repeat (first | simp [-invQ_normal, l5_13, i21_1, i22_5, i23_8, i24_10, i25_11, i26_14, i27_13, i28_12, hg, c30, hM, g32, aBin, aUn, pow2_ne, pow2_ne_i, eqCells, eqCell, int_beq, splice, alloc1_loc, box1_loc, bld, aFill] | simp (disch := omega) only [wrap_i64, wrap_u64, tmod_nn, tdiv_nn, idx_w, idx_i, app_w]))
                        -- cont 1: t73=F t13=T t92=F
                        simp only [invQ_normal]
                        rw [hI8]
                        refine ⟨_, ?_, i + 1, rfl, ?_⟩
                        · omega
                        · (repeat (first | simp [-invQ_normal, i21_1, i22_5, i23_8, i24_10, i25_11, i26_14, i27_13, i28_12, hg, c30, hM, g32, aBin, aUn, pow2_ne, pow2_ne_i, eqCells, eqCell, int_beq, splice, alloc1_loc, box1_loc, bld, aFill] | simp (disch := omega) only [wrap_i64, wrap_u64, tmod_nn, tdiv_nn, idx_w, idx_i, app_w])) <;> (omega)
                · simp only [AVal.raw.injEq, Value.bool.injEq, decide_eq_false_iff_not, decide_eq_true_eq, Bool.not_eq_true, Bool.not_eq_false, Bool.not_eq_eq_eq_not, Bool.not_true, Bool.not_false, Bool.and_eq_true, Bool.or_eq_true, Bool.or_eq_false_iff] at c17
                  refine aw_exit ?_
                  try simp only [seqQ_normal, seqQ_exit, seqQ_ret, blockQ_normal, blockQ_ret, blockQ_exit, invQ_exit, invQ_ret, endQ_eq, if_true, reduceIte, Nat.reduceEqDiff, reduceCtorEq]
                  refine aw_seq ?_
                  refine aw_seq (aw_region_q r5_21 ?_)
                  (repeat (first | simp [-invQ_normal, l5_21, i10_1, i11_5, i12_8, i13_10, i14_11, i15_12, hg, c17, aBin, aUn, pow2_ne, pow2_ne_i, eqCells, eqCell, int_beq, splice, alloc1_loc, box1_loc, bld, aFill] | simp (disch := omega) only [wrap_i64, wrap_u64, tmod_nn, tdiv_nn, idx_w, idx_i, app_w]))
                  refine aw_block ?_
                  obtain ⟨I34, hI34⟩ : ∃ I : Nat → St → Prop, I = fun k s => ∃ (i : Nat), k = l.length - i ∧ s.get 1 = .sl (intsL l) ∧ s.get 5 = .raw (.bool true) ∧ s.get 8 = .sl ((ofA l).map wordC) ∧ s.get 10 = .sl (intsL (listI (ofA l))) ∧ s.get 11 = .raw (.int .i64 0) ∧ s.get 15 = .raw (.int .i64 i) ∧ s.m.gs = gs ∧ (i ≤ l.length) := ⟨_, rfl⟩
                  refine aw_inv2 I34 ?_ ?_
                  · rw [hI34]
                    refine ⟨_, 0, rfl, ?_⟩
                    (repeat (first | simp [-invQ_normal, i10_1, i11_5, i12_8, i13_10, i14_11, i15_12, hg, c17, aBin, aUn, pow2_ne, pow2_ne_i, eqCells, eqCell, int_beq, splice, alloc1_loc, box1_loc, bld, aFill] | simp (disch := omega) only [wrap_i64, wrap_u64, tmod_nn, tdiv_nn, idx_w, idx_i, app_w])) <;> (omega)
                  · intro k s hI0
                    rw [hI34] at hI0
                    obtain ⟨i, k35, i36_1, i37_5, i38_8, i39_10, i40_11, i41_15, hg, hi⟩ := hI0
                    unfold b5_L0
                    refine aw_seq ?_
                    refine aw_seq (aw_region_q r5_22 ?_)
                    (repeat (first | simp [-invQ_normal, l5_22, i36_1, i37_5, i38_8, i39_10, i40_11, i41_15, hg, aBin, aUn, pow2_ne, pow2_ne_i, eqCells, eqCell, int_beq, splice, alloc1_loc, box1_loc, bld, aFill] | simp (disch := omega) only [wrap_i64, wrap_u64, tmod_nn, tdiv_nn, idx_w, idx_i, app_w]))
                    refine aw_cond_v ?_
                    (repeat (first | simp [-invQ_normal, i36_1, i37_5, i38_8, i39_10, i40_11, i41_15, hg, aBin, aUn, pow2_ne, pow2_ne_i, eqCells, eqCell, int_beq, splice, alloc1_loc, box1_loc, bld, aFill] | simp (disch := omega) only [wrap_i64, wrap_u64, tmod_nn, tdiv_nn, idx_w, idx_i, app_w]))
                    refine condV_split ⟨_, rfl⟩ (fun c43 => ?_) (fun c43 => ?_)
                    · simp only [AVal.raw.injEq, Value.bool.injEq, decide_eq_false_iff_not, decide_eq_true_eq, Bool.not_eq_true, Bool.not_eq_false, Bool.not_eq_eq_eq_not, Bool.not_true, Bool.not_false, Bool.and_eq_true, Bool.or_eq_true, Bool.or_eq_false_iff] at c43
                      refine aw_skip ?_
                      try simp only [seqQ_normal, seqQ_exit, seqQ_ret, blockQ_normal, blockQ_ret, blockQ_exit, invQ_exit, invQ_ret, endQ_eq, if_true, reduceIte, Nat.reduceEqDiff, reduceCtorEq]
                      refine aw_seq ?_
                      refine aw_block ?_
                      refine aw_seq (aw_region_q r5_24 ?_)
                      have hin2 : l[i] ∈ l := List.getElem_mem _
                      have w0 := all_within hall _ hin2
                      have w1 := w0.1
                      have w2 := w0.2
                      have w3 := of_has hall hin2
                      (repeat (first | simp [-invQ_normal, l5_24, i36_1, i37_5, i38_8, i39_10, i40_11, i41_15, hg, c43, hog, w1, w2, w3, aBin, aUn, pow2_ne, pow2_ne_i, eqCells, eqCell, int_beq, splice, alloc1_loc, box1_loc, bld, aFill] | simp (disch := omega) only [wrap_i64, wrap_u64, tmod_nn, tdiv_nn, idx_w, idx_i, app_w]))
                      refine wpC_vals (ev_Has (ofA l) (good_len hog) hob _ (hin _ (by simp)) _ _) (by simp) (by simp [isRow]) (by simp) (by first | simp | assumption) (by simp [plainArg, plain1, AVal.shared, AVal.shared.sharedOne, rawCell]) ⟨by simp, ?_⟩
                      (repeat (first | simp [-invQ_normal, i36_1, i37_5, i38_8, i39_10, i40_11, i41_15, hg, c43, hog, w1, w2, w3, aBin, aUn, pow2_ne, pow2_ne_i, eqCells, eqCell, int_beq, splice, alloc1_loc, box1_loc, bld, aFill] | simp (disch := omega) only [wrap_i64, wrap_u64, tmod_nn, tdiv_nn, idx_w, idx_i, app_w]))
                      refine aw_seq (aw_region_q r5_25 ?_)
                      (repeat (first | simp [-invQ_normal, l5_25, i36_1, i37_5, i38_8, i39_10, i40_11, i41_15, hg, c43, hog, w1, w2, w3, aBin, aUn, pow2_ne, pow2_ne_i, eqCells, eqCell, int_beq, splice, alloc1_loc, box1_loc, bld, aFill] | simp (disch := omega) only [wrap_i64, wrap_u64, tmod_nn, tdiv_nn, idx_w, idx_i, app_w]))
                      refine aw_cond_0 (by (repeat (first | simp [-invQ_normal, i36_1, i37_5, i38_8, i39_10, i40_11, i41_15, hg, c43, hog, w1, w2, w3, aBin, aUn, pow2_ne, pow2_ne_i, eqCells, eqCell, int_beq, splice, alloc1_loc, box1_loc, bld, aFill] | simp (disch := omega) only [wrap_i64, wrap_u64, tmod_nn, tdiv_nn, idx_w, idx_i, app_w]))) ?_
                      refine aw_skip ?_
                      try simp only [seqQ_normal, seqQ_exit, seqQ_ret, blockQ_normal, blockQ_ret, blockQ_exit, invQ_exit, invQ_ret, endQ_eq, if_true, reduceIte, Nat.reduceEqDiff, reduceCtorEq]
                      refine aw_region_q r5_23 ?_
                      (repeat (first | simp [-invQ_normal, l5_23, i36_1, i37_5, i38_8, i39_10, i40_11, i41_15, hg, c43, hog, w1, w2, w3, aBin, aUn, pow2_ne, pow2_ne_i, eqCells, eqCell, int_beq, splice, alloc1_loc, box1_loc, bld, aFill] | simp (disch := omega) only [wrap_i64, wrap_u64, tmod_nn, tdiv_nn, idx_w, idx_i, app_w]))
                      -- cont 0: t109=T t119=T
                      simp only [invQ_normal]
                      rw [hI34]
                      refine ⟨_, ?_, i + 1, rfl, ?_⟩
                      · omega
                      · (repeat (first | simp [-invQ_normal, i36_1, i37_5, i38_8, i39_10, i40_11, i41_15, hg, c43, hog, w1, w2, w3, aBin, aUn, pow2_ne, pow2_ne_i, eqCells, eqCell, int_beq, splice, alloc1_loc, box1_loc, bld, aFill] | simp (disch := omega) only [wrap_i64, wrap_u64, tmod_nn, tdiv_nn, idx_w, idx_i, app_w])) <;> (omega)
                    · simp only [AVal.raw.injEq, Value.bool.injEq, decide_eq_false_iff_not, decide_eq_true_eq, Bool.not_eq_true, Bool.not_eq_false, Bool.not_eq_eq_eq_not, Bool.not_true, Bool.not_false, Bool.and_eq_true, Bool.or_eq_true, Bool.or_eq_false_iff] at c43
                      refine aw_exit ?_
                      try simp only [seqQ_normal, seqQ_exit, seqQ_ret, blockQ_normal, blockQ_ret, blockQ_exit, invQ_exit, invQ_ret, endQ_eq, if_true, reduceIte, Nat.reduceEqDiff, reduceCtorEq]
                      refine aw_seq (aw_region_q r5_27 ?_)
                      skip
                      (repeat (first | simp [-invQ_normal, l5_27, i36_1, i37_5, i38_8, i39_10, i40_11, i41_15, hg, c43, hog, aBin, aUn, pow2_ne, pow2_ne_i, eqCells, eqCell, int_beq, splice, alloc1_loc, box1_loc, bld, aFill] | simp (disch := omega) only [wrap_i64, wrap_u64, tmod_nn, tdiv_nn, idx_w, idx_i, app_w]))
                      refine wpC_vals (ev15 (x := extL) rfl (ofA l) (by have := good_len hog; omega) _ _) (by simp) (by simp [isRow]) (by simp) (by first | simp | assumption) (by simp [plainArg, plain1, AVal.shared, AVal.shared.sharedOne, rawCell]) ⟨by simp, ?_⟩
                      (repeat (first | simp [-invQ_normal, i36_1, i37_5, i38_8, i39_10, i40_11, i41_15, hg, c43, hog, aBin, aUn, pow2_ne, pow2_ne_i, eqCells, eqCell, int_beq, splice, alloc1_loc, box1_loc, bld, aFill] | simp (disch := omega) only [wrap_i64, wrap_u64, tmod_nn, tdiv_nn, idx_w, idx_i, app_w]))
                      refine aw_ret (retQ_vals (gs := gs) [.raw (.bool true)] (.inr rfl) ?_ (by simp [givenAs, AVal.fixed, rawCell]) (by (repeat (first | simp [-invQ_normal, i36_1, i37_5, i38_8, i39_10, i40_11, i41_15, hg, c43, hog, aBin, aUn, pow2_ne, pow2_ne_i, eqCells, eqCell, int_beq, splice, alloc1_loc, box1_loc, bld, aFill] | simp (disch := omega) only [wrap_i64, wrap_u64, tmod_nn, tdiv_nn, idx_w, idx_i, app_w]))) (by rw [← hr0]; first | done | rfl))
                      (repeat (first | simp [-invQ_normal, resultOf, i36_1, i37_5, i38_8, i39_10, i40_11, i41_15, hg, c43, hog, aBin, aUn, pow2_ne, pow2_ne_i, eqCells, eqCell, int_beq, splice, alloc1_loc, box1_loc, bld, aFill] | simp (disch := omega) only [wrap_i64, wrap_u64, tmod_nn, tdiv_nn, idx_w, idx_i, app_w])) <;> (trace_state; sorry)
        · simp only [AVal.raw.injEq, Value.bool.injEq, decide_eq_false_iff_not, decide_eq_true_eq, Bool.not_eq_true, Bool.not_eq_false, Bool.not_eq_eq_eq_not, Bool.not_true, Bool.not_false, Bool.and_eq_true, Bool.or_eq_true, Bool.or_eq_false_iff] at g4
          (repeat (first | simp [-invQ_normal, a0, a1, hg, g1, g2, c3, g4, aBin, aUn, pow2_ne, pow2_ne_i, eqCells, eqCell, int_beq, splice, alloc1_loc, box1_loc, bld, aFill] | simp (disch := omega) only [wrap_i64, wrap_u64, tmod_nn, tdiv_nn, idx_w, idx_i, app_w]))
          refine aw_cond_0 (by (repeat (first | simp [-invQ_normal, a0, a1, hg, g1, g2, c3, g4, aBin, aUn, pow2_ne, pow2_ne_i, eqCells, eqCell, int_beq, splice, alloc1_loc, box1_loc, bld, aFill] | simp (disch := omega) only [wrap_i64, wrap_u64, tmod_nn, tdiv_nn, idx_w, idx_i, app_w]))) ?_
          refine aw_skip ?_
          try simp only [seqQ_normal, seqQ_exit, seqQ_ret, blockQ_normal, blockQ_ret, blockQ_exit, invQ_exit, invQ_ret, endQ_eq, if_true, reduceIte, Nat.reduceEqDiff, reduceCtorEq]
          refine aw_seq (aw_region_q r5_7 ?_)
          obtain ⟨hog, hob⟩ := ofA_good l
          have hML : (listI (ofA l)).length ≤ 2000000 := (by have := listI_len (ofA l); have := good_len hog; omega)
          (repeat (first | simp [-invQ_normal, l5_7, a0, a1, hg, g1, g2, c3, g4, hog, aBin, aUn, pow2_ne, pow2_ne_i, eqCells, eqCell, int_beq, splice, alloc1_loc, box1_loc, bld, aFill] | simp (disch := omega) only [wrap_i64, wrap_u64, tmod_nn, tdiv_nn, idx_w, idx_i, app_w]))
          refine wpC_vals (ev_Of l (by omega) hin _ _ (Nat.le_refl _)).choose_spec (by simp) (by simp [isRow]) (by simp) (by first | simp | assumption) (by simp [plainArg, plain1, AVal.shared, AVal.shared.sharedOne, rawCell]) ⟨by simp, ?_⟩
          (repeat (first | simp [-invQ_normal, a0, a1, hg, g1, g2, c3, g4, hog, aBin, aUn, pow2_ne, pow2_ne_i, eqCells, eqCell, int_beq, splice, alloc1_loc, box1_loc, bld, aFill] | simp (disch := omega) only [wrap_i64, wrap_u64, tmod_nn, tdiv_nn, idx_w, idx_i, app_w]))
          refine aw_seq ?_
          refine aw_seq (aw_region_q r5_8 ?_)
          (repeat (first | simp [-invQ_normal, l5_8, a0, a1, hg, g1, g2, c3, g4, hog, aBin, aUn, pow2_ne, pow2_ne_i, eqCells, eqCell, int_beq, splice, alloc1_loc, box1_loc, bld, aFill] | simp (disch := omega) only [wrap_i64, wrap_u64, tmod_nn, tdiv_nn, idx_w, idx_i, app_w]))
          refine aw_cond_v ?_
          (repeat (first | simp [-invQ_normal, a0, a1, hg, g1, g2, c3, g4, hog, aBin, aUn, pow2_ne, pow2_ne_i, eqCells, eqCell, int_beq, splice, alloc1_loc, box1_loc, bld, aFill] | simp (disch := omega) only [wrap_i64, wrap_u64, tmod_nn, tdiv_nn, idx_w, idx_i, app_w]))
          refine condV_split ⟨_, rfl⟩ (fun c44 => ?_) (fun c44 => ?_)
          · simp only [AVal.raw.injEq, Value.bool.injEq, decide_eq_false_iff_not, decide_eq_true_eq, Bool.not_eq_true, Bool.not_eq_false, Bool.not_eq_eq_eq_not, Bool.not_true, Bool.not_false, Bool.and_eq_true, Bool.or_eq_true, Bool.or_eq_false_iff] at c44
            have hall : l.all withinI = false := (by first | exact all_not c44 | exact Bool.eq_false_iff.2 c44| simpa using c44)
            have hnil : ofA l = [] := (by unfold ofA; rw [hall]; rfl)
            refine aw_seq (aw_region_q r5_9 ?_)
            (repeat (first | simp [-invQ_normal, l5_9, a0, a1, hg, g1, g2, c3, g4, hog, c44, hnil, aBin, aUn, pow2_ne, pow2_ne_i, eqCells, eqCell, int_beq, splice, alloc1_loc, box1_loc, bld, aFill] | simp (disch := omega) only [wrap_i64, wrap_u64, tmod_nn, tdiv_nn, idx_w, idx_i, app_w]))
            refine aw_ret (retQ_vals (gs := gs) [.raw (.bool true)] (.inr rfl) ?_ (by simp [givenAs, AVal.fixed, rawCell]) (by (repeat (first | simp [-invQ_normal, a0, a1, hg, g1, g2, c3, g4, hog, c44, hnil, aBin, aUn, pow2_ne, pow2_ne_i, eqCells, eqCell, int_beq, splice, alloc1_loc, box1_loc, bld, aFill] | simp (disch := omega) only [wrap_i64, wrap_u64, tmod_nn, tdiv_nn, idx_w, idx_i, app_w]))) (by rw [← hr0]; first | done | rfl))
            (repeat (first | simp [-invQ_normal, resultOf, a0, a1, hg, g1, g2, c3, g4, hog, c44, hnil, aBin, aUn, pow2_ne, pow2_ne_i, eqCells, eqCell, int_beq, splice, alloc1_loc, box1_loc, bld, aFill] | simp (disch := omega) only [wrap_i64, wrap_u64, tmod_nn, tdiv_nn, idx_w, idx_i, app_w])) <;> (trace_state; sorry)
          · simp only [AVal.raw.injEq, Value.bool.injEq, decide_eq_false_iff_not, decide_eq_true_eq, Bool.not_eq_true, Bool.not_eq_false, Bool.not_eq_eq_eq_not, Bool.not_true, Bool.not_false, Bool.and_eq_true, Bool.or_eq_true, Bool.or_eq_false_iff] at c44
            have hall : l.all withinI = true := (by simpa using c44)
            refine aw_skip ?_
            try simp only [seqQ_normal, seqQ_exit, seqQ_ret, blockQ_normal, blockQ_ret, blockQ_exit, invQ_exit, invQ_ret, endQ_eq, if_true, reduceIte, Nat.reduceEqDiff, reduceCtorEq]
            refine aw_seq (aw_region_q r5_10 ?_)
            (repeat (first | simp [-invQ_normal, l5_10, a0, a1, hg, g1, g2, c3, g4, hog, c44, hall, aBin, aUn, pow2_ne, pow2_ne_i, eqCells, eqCell, int_beq, splice, alloc1_loc, box1_loc, bld, aFill] | simp (disch := omega) only [wrap_i64, wrap_u64, tmod_nn, tdiv_nn, idx_w, idx_i, app_w]))
            refine wpC_vals (ev_List (ofA l) (good_len hog) hob _ _) (by simp) (by simp [isRow]) (by simp) (by first | simp | assumption) (by simp [plainArg, plain1, AVal.shared, AVal.shared.sharedOne, rawCell]) ⟨by simp, ?_⟩
            (repeat (first | simp [-invQ_normal, a0, a1, hg, g1, g2, c3, g4, hog, c44, hall, aBin, aUn, pow2_ne, pow2_ne_i, eqCells, eqCell, int_beq, splice, alloc1_loc, box1_loc, bld, aFill] | simp (disch := omega) only [wrap_i64, wrap_u64, tmod_nn, tdiv_nn, idx_w, idx_i, app_w]))
            refine aw_seq ?_
            refine aw_seq (aw_region_q r5_11 ?_)
            (repeat (first | simp [-invQ_normal, l5_11, a0, a1, hg, g1, g2, c3, g4, hog, c44, hall, aBin, aUn, pow2_ne, pow2_ne_i, eqCells, eqCell, int_beq, splice, alloc1_loc, box1_loc, bld, aFill] | simp (disch := omega) only [wrap_i64, wrap_u64, tmod_nn, tdiv_nn, idx_w, idx_i, app_w]))
            refine aw_block ?_
            obtain ⟨I46, hI46⟩ : ∃ I : Nat → St → Prop, I = fun k s => ∃ (i : Nat), k = (listI (ofA l)).length - i ∧ s.get 1 = .sl (intsL l) ∧ s.get 5 = .raw (.bool true) ∧ s.get 8 = .sl ((ofA l).map wordC) ∧ s.get 10 = .sl (intsL (listI (ofA l))) ∧ s.get 11 = .raw (.int .i64 0) ∧ s.get 12 = .raw (.int .i64 i) ∧ s.m.gs = gs ∧ (i ≤ (listI (ofA l)).length) := ⟨_, rfl⟩
            refine aw_inv2 I46 ?_ ?_
            · rw [hI46]
              refine ⟨_, 0, rfl, ?_⟩
              (repeat (first | simp [-invQ_normal, a0, a1, hg, g1, g2, c3, g4, hog, c44, hall, aBin, aUn, pow2_ne, pow2_ne_i, eqCells, eqCell, int_beq, splice, alloc1_loc, box1_loc, bld, aFill] | simp (disch := omega) only [wrap_i64, wrap_u64, tmod_nn, tdiv_nn, idx_w, idx_i, app_w])) <;> (omega)
            · intro k s hI0
              rw [hI46] at hI0
              obtain ⟨i, k47, i48_1, i49_5, i50_8, i51_10, i52_11, i53_12, hg, hi⟩ := hI0
              unfold b5_L2
              refine aw_seq ?_
              refine aw_seq (aw_region_q r5_12 ?_)
              (repeat (first | simp [-invQ_normal, l5_12, i48_1, i49_5, i50_8, i51_10, i52_11, i53_12, hg, aBin, aUn, pow2_ne, pow2_ne_i, eqCells, eqCell, int_beq, splice, alloc1_loc, box1_loc, bld, aFill] | simp (disch := omega) only [wrap_i64, wrap_u64, tmod_nn, tdiv_nn, idx_w, idx_i, app_w]))
              refine aw_cond_v ?_
              (repeat (first | simp [-invQ_normal, i48_1, i49_5, i50_8, i51_10, i52_11, i53_12, hg, aBin, aUn, pow2_ne, pow2_ne_i, eqCells, eqCell, int_beq, splice, alloc1_loc, box1_loc, bld, aFill] | simp (disch := omega) only [wrap_i64, wrap_u64, tmod_nn, tdiv_nn, idx_w, idx_i, app_w]))
              refine condV_split ⟨_, rfl⟩ (fun c55 => ?_) (fun c55 => ?_)
              · simp only [AVal.raw.injEq, Value.bool.injEq, decide_eq_false_iff_not, decide_eq_true_eq, Bool.not_eq_true, Bool.not_eq_false, Bool.not_eq_eq_eq_not, Bool.not_true, Bool.not_false, Bool.and_eq_true, Bool.or_eq_true, Bool.or_eq_false_iff] at c55
                refine aw_skip ?_
                try simp only [seqQ_normal, seqQ_exit, seqQ_ret, blockQ_normal, blockQ_ret, blockQ_exit, invQ_exit, invQ_ret, endQ_eq, if_true, reduceIte, Nat.reduceEqDiff, reduceCtorEq]
                refine aw_seq ?_
                refine aw_block ?_
                refine aw_seq (aw_region_q r5_14 ?_)
                (repeat (first | simp [-invQ_normal, l5_14, i48_1, i49_5, i50_8, i51_10, i52_11, i53_12, hg, c55, aBin, aUn, pow2_ne, pow2_ne_i, eqCells, eqCell, int_beq, splice, alloc1_loc, box1_loc, bld, aFill] | simp (disch := omega) only [wrap_i64, wrap_u64, tmod_nn, tdiv_nn, idx_w, idx_i, app_w]))
                refine aw_seq ?_
                refine aw_seq (aw_region_q r5_15 ?_)
                (repeat (first | simp [-invQ_normal, l5_15, i48_1, i49_5, i50_8, i51_10, i52_11, i53_12, hg, c55, aBin, aUn, pow2_ne, pow2_ne_i, eqCells, eqCell, int_beq, splice, alloc1_loc, box1_loc, bld, aFill] | simp (disch := omega) only [wrap_i64, wrap_u64, tmod_nn, tdiv_nn, idx_w, idx_i, app_w]))
                refine aw_block ?_
                obtain ⟨I57, hI57⟩ : ∃ I : Nat → St → Prop, I = fun k s => ∃ (n : Nat), k = l.length - n ∧ s.get 1 = .sl (intsL l) ∧ s.get 5 = .raw (.bool true) ∧ s.get 8 = .sl ((ofA l).map wordC) ∧ s.get 10 = .sl (intsL (listI (ofA l))) ∧ s.get 11 = .raw (.int .i64 0) ∧ s.get 14 = .raw (.int .i64 n) ∧ s.get 13 = .raw (.bool (decide ((listI (ofA l))[i] ∈ l.take n))) ∧ s.get 12 = .raw (.int .i64 i) ∧ s.m.gs = gs ∧ (n ≤ l.length) := ⟨_, rfl⟩
                refine aw_inv2 I57 ?_ ?_
                · rw [hI57]
                  refine ⟨_, 0, rfl, ?_⟩
                  (repeat (first | simp [-invQ_normal, i48_1, i49_5, i50_8, i51_10, i52_11, i53_12, hg, c55, aBin, aUn, pow2_ne, pow2_ne_i, eqCells, eqCell, int_beq, splice, alloc1_loc, box1_loc, bld, aFill] | simp (disch := omega) only [wrap_i64, wrap_u64, tmod_nn, tdiv_nn, idx_w, idx_i, app_w])) <;> (omega)
                · intro k s hI0
                  rw [hI57] at hI0
                  obtain ⟨n, k58, i59_1, i60_5, i61_8, i62_10, i63_11, i64_14, i65_13, i66_12, hg, hn⟩ := hI0
                  unfold b5_L1
                  refine aw_seq ?_
                  refine aw_seq (aw_region_q r5_16 ?_)
                  (repeat (first | simp [-invQ_normal, l5_16, i59_1, i60_5, i61_8, i62_10, i63_11, i64_14, i65_13, i66_12, hg, aBin, aUn, pow2_ne, pow2_ne_i, eqCells, eqCell, int_beq, splice, alloc1_loc, box1_loc, bld, aFill] | simp (disch := omega) only [wrap_i64, wrap_u64, tmod_nn, tdiv_nn, idx_w, idx_i, app_w]))
                  refine aw_cond_v ?_
                  (repeat (first | simp [-invQ_normal, i59_1, i60_5, i61_8, i62_10, i63_11, i64_14, i65_13, i66_12, hg, aBin, aUn, pow2_ne, pow2_ne_i, eqCells, eqCell, int_beq, splice, alloc1_loc, box1_loc, bld, aFill] | simp (disch := omega) only [wrap_i64, wrap_u64, tmod_nn, tdiv_nn, idx_w, idx_i, app_w]))
                  refine condV_split ⟨_, rfl⟩ (fun c68 => ?_) (fun c68 => ?_)
                  · simp only [AVal.raw.injEq, Value.bool.injEq, decide_eq_false_iff_not, decide_eq_true_eq, Bool.not_eq_true, Bool.not_eq_false, Bool.not_eq_eq_eq_not, Bool.not_true, Bool.not_false, Bool.and_eq_true, Bool.or_eq_true, Bool.or_eq_false_iff] at c68
                    refine aw_skip ?_
                    try simp only [seqQ_normal, seqQ_exit, seqQ_ret, blockQ_normal, blockQ_ret, blockQ_exit, invQ_exit, invQ_ret, endQ_eq, if_true, reduceIte, Nat.reduceEqDiff, reduceCtorEq]
                    refine aw_seq ?_
                    refine aw_block ?_
                    refine aw_region_d r5_18 ?_
                    (repeat (first | simp [-invQ_normal, l5_18, i59_1, i60_5, i61_8, i62_10, i63_11, i64_14, i65_13, i66_12, hg, c68, aBin, aUn, pow2_ne, pow2_ne_i, eqCells, eqCell, int_beq, splice, alloc1_loc, box1_loc, bld, aFill] | simp (disch := omega) only [wrap_i64, wrap_u64, tmod_nn, tdiv_nn, idx_w, idx_i, app_w]))
                    refine wpG_split ⟨_, rfl⟩ (fun g69 => ?_) (fun g69 => ?_)
                    · simp only [AVal.raw.injEq, Value.bool.injEq, decide_eq_false_iff_not, decide_eq_true_eq, Bool.not_eq_true, Bool.not_eq_false, Bool.not_eq_eq_eq_not, Bool.not_true, Bool.not_false, Bool.and_eq_true, Bool.or_eq_true, Bool.or_eq_false_iff] at g69
                      (repeat (first | simp [-invQ_normal, i59_1, i60_5, i61_8, i62_10, i63_11, i64_14, i65_13, i66_12, hg, c68, g69, aBin, aUn, pow2_ne, pow2_ne_i, eqCells, eqCell, int_beq, splice, alloc1_loc, box1_loc, bld, aFill] | simp (disch := omega) only [wrap_i64, wrap_u64, tmod_nn, tdiv_nn, idx_w, idx_i, app_w]))
                      refine aw_region_q r5_17 ?_
                      (repeat (first | simp [-invQ_normal, l5_17, i59_1, i60_5, i61_8, i62_10, i63_11, i64_14, i65_13, i66_12, hg, c68, g69, aBin, aUn, pow2_ne, pow2_ne_i, eqCells, eqCell, int_beq, splice, alloc1_loc, box1_loc, bld, aFill] | simp (disch := omega) only [wrap_i64, wrap_u64, tmod_nn, tdiv_nn, idx_w, idx_i, app_w]))
                      -- cont 2: t73=T t13=T
                      simp only [invQ_normal]
                      rw [hI57]
                      refine ⟨_, ?_, n + 1, rfl, ?_⟩
                      · omega
                      · (repeat (first | simp [-invQ_normal, i59_1, i60_5, i61_8, i62_10, i63_11, i64_14, i65_13, i66_12, hg, c68, g69, aBin, aUn, pow2_ne, pow2_ne_i, eqCells, eqCell, int_beq, splice, alloc1_loc, box1_loc, bld, aFill] | simp (disch := omega) only [wrap_i64, wrap_u64, tmod_nn, tdiv_nn, idx_w, idx_i, app_w])) <;> (rw [mem_take_s (show n < l.length by omega)]; first | exact ⟨.inl (by assumption), by omega⟩ | exact ⟨⟨fun h => .inr h.symm, fun h => h.elim (fun h => absurd h (by assumption)) Eq.symm⟩, by omega⟩)
                    · simp only [AVal.raw.injEq, Value.bool.injEq, decide_eq_false_iff_not, decide_eq_true_eq, Bool.not_eq_true, Bool.not_eq_false, Bool.not_eq_eq_eq_not, Bool.not_true, Bool.not_false, Bool.and_eq_true, Bool.or_eq_true, Bool.or_eq_false_iff] at g69
                      (repeat (first | simp [-invQ_normal, i59_1, i60_5, i61_8, i62_10, i63_11, i64_14, i65_13, i66_12, hg, c68, g69, aBin, aUn, pow2_ne, pow2_ne_i, eqCells, eqCell, int_beq, splice, alloc1_loc, box1_loc, bld, aFill] | simp (disch := omega) only [wrap_i64, wrap_u64, tmod_nn, tdiv_nn, idx_w, idx_i, app_w]))
                      refine aw_region_q r5_17 ?_
                      (repeat (first | simp [-invQ_normal, l5_17, i59_1, i60_5, i61_8, i62_10, i63_11, i64_14, i65_13, i66_12, hg, c68, g69, aBin, aUn, pow2_ne, pow2_ne_i, eqCells, eqCell, int_beq, splice, alloc1_loc, box1_loc, bld, aFill] | simp (disch := omega) only [wrap_i64, wrap_u64, tmod_nn, tdiv_nn, idx_w, idx_i, app_w]))
                      -- cont 3: t73=T t13=F
                      simp only [invQ_normal]
                      rw [hI57]
                      refine ⟨_, ?_, n + 1, rfl, ?_⟩
                      · omega
                      · (repeat (first | simp [-invQ_normal, i59_1, i60_5, i61_8, i62_10, i63_11, i64_14, i65_13, i66_12, hg, c68, g69, aBin, aUn, pow2_ne, pow2_ne_i, eqCells, eqCell, int_beq, splice, alloc1_loc, box1_loc, bld, aFill] | simp (disch := omega) only [wrap_i64, wrap_u64, tmod_nn, tdiv_nn, idx_w, idx_i, app_w])) <;> (rw [mem_take_s (show n < l.length by omega)]; first | exact ⟨.inl (by assumption), by omega⟩ | exact ⟨⟨fun h => .inr h.symm, fun h => h.elim (fun h => absurd h (by assumption)) Eq.symm⟩, by omega⟩)
                  · simp only [AVal.raw.injEq, Value.bool.injEq, decide_eq_false_iff_not, decide_eq_true_eq, Bool.not_eq_true, Bool.not_eq_false, Bool.not_eq_eq_eq_not, Bool.not_true, Bool.not_false, Bool.and_eq_true, Bool.or_eq_true, Bool.or_eq_false_iff] at c68
                    refine aw_exit ?_
                    try simp only [seqQ_normal, seqQ_exit, seqQ_ret, blockQ_normal, blockQ_ret, blockQ_exit, invQ_exit, invQ_ret, endQ_eq, if_true, reduceIte, Nat.reduceEqDiff, reduceCtorEq]
                    refine aw_seq (aw_region_d r5_19 ?_)
                    have hM : (listI (ofA l))[i] ∈ l.take n := (by rw [List.take_of_length_le (by omega)]; exact list_sub hall (List.getElem_mem _))
                    (repeat (first | simp [-invQ_normal, l5_19, i59_1, i60_5, i61_8, i62_10, i63_11, i64_14, i65_13, i66_12, hg, c68, hM, aBin, aUn, pow2_ne, pow2_ne_i, eqCells, eqCell, int_beq, splice, alloc1_loc, box1_loc, bld, aFill] | simp (disch := omega) only [wrap_i64, wrap_u64, tmod_nn, tdiv_nn, idx_w, idx_i, app_w]))
                    refine wpG_split ⟨_, rfl⟩ (fun g70 => ?_) (fun g70 => ?_)
                    · simp only [AVal.raw.injEq, Value.bool.injEq, decide_eq_false_iff_not, decide_eq_true_eq, Bool.not_eq_true, Bool.not_eq_false, Bool.not_eq_eq_eq_not, Bool.not_true, Bool.not_false, Bool.and_eq_true, Bool.or_eq_true, Bool.or_eq_false_iff] at g70
                      have hup := list_up hog (show i < (listI (ofA l)).length by omega) (by omega)
                      have hup2 : ¬ (listI (ofA l))[i] ≤ (listI (ofA l))[i - 1] := (by omega)
                      (repeat (first | simp [-invQ_normal, i59_1, i60_5, i61_8, i62_10, i63_11, i64_14, i65_13, i66_12, hg, c68, hM, g70, hup2, aBin, aUn, pow2_ne, pow2_ne_i, eqCells, eqCell, int_beq, splice, alloc1_loc, box1_loc, bld, aFill] | simp (disch := omega) only [wrap_i64, wrap_u64, tmod_nn, tdiv_nn, idx_w, idx_i, app_w]))
                      refine aw_cond_0 (by (repeat (first | simp [-invQ_normal, i59_1, i60_5, i61_8, i62_10, i63_11, i64_14, i65_13, i66_12, hg, c68, hM, g70, hup2, aBin, aUn, pow2_ne, pow2_ne_i, eqCells, eqCell, int_beq, splice, alloc1_loc, box1_loc, bld, aFill] | simp (disch := omega) only [wrap_i64, wrap_u64, tmod_nn, tdiv_nn, idx_w, idx_i, app_w]))) ?_
                      refine aw_skip ?_
                      try simp only [seqQ_normal, seqQ_exit, seqQ_ret, blockQ_normal, blockQ_ret, blockQ_exit, invQ_exit, invQ_ret, endQ_eq, if_true, reduceIte, Nat.reduceEqDiff, reduceCtorEq]
                      refine aw_region_q r5_13 ?_
                      (repeat (first | simp [-invQ_normal, l5_13, i59_1, i60_5, i61_8, i62_10, i63_11, i64_14, i65_13, i66_12, hg, c68, hM, g70, hup2, aBin, aUn, pow2_ne, pow2_ne_i, eqCells, eqCell, int_beq, splice, alloc1_loc, box1_loc, bld, aFill] | simp (disch := omega) only [wrap_i64, wrap_u64, tmod_nn, tdiv_nn, idx_w, idx_i, app_w]))
                      -- cont 2: t73=F t13=T t92=T
                      simp only [invQ_normal]
                      rw [hI46]
                      refine ⟨_, ?_, i + 1, rfl, ?_⟩
                      · omega
                      · (repeat (first | simp [-invQ_normal, i59_1, i60_5, i61_8, i62_10, i63_11, i64_14, i65_13, i66_12, hg, c68, hM, g70, hup2, aBin, aUn, pow2_ne, pow2_ne_i, eqCells, eqCell, int_beq, splice, alloc1_loc, box1_loc, bld, aFill] | simp (disch := omega) only [wrap_i64, wrap_u64, tmod_nn, tdiv_nn, idx_w, idx_i, app_w])) <;> (omega)
                    · simp only [AVal.raw.injEq, Value.bool.injEq, decide_eq_false_iff_not, decide_eq_true_eq, Bool.not_eq_true, Bool.not_eq_false, Bool.not_eq_eq_eq_not, Bool.not_true, Bool.not_false, Bool.and_eq_true, Bool.or_eq_true, Bool.or_eq_false_iff] at g70
                      (repeat (first | simp [-invQ_normal, i59_1, i60_5, i61_8, i62_10, i63_11, i64_14, i65_13, i66_12, hg, c68, hM, g70, aBin, aUn, pow2_ne, pow2_ne_i, eqCells, eqCell, int_beq, splice, alloc1_loc, box1_loc, bld, aFill] | simp (disch := omega) only [wrap_i64, wrap_u64, tmod_nn, tdiv_nn, idx_w, idx_i, app_w]))
                      refine aw_cond_0 (by (repeat (first | simp [-invQ_normal, i59_1, i60_5, i61_8, i62_10, i63_11, i64_14, i65_13, i66_12, hg, c68, hM, g70, aBin, aUn, pow2_ne, pow2_ne_i, eqCells, eqCell, int_beq, splice, alloc1_loc, box1_loc, bld, aFill] | simp (disch := omega) only [wrap_i64, wrap_u64, tmod_nn, tdiv_nn, idx_w, idx_i, app_w]))) ?_
                      refine aw_skip ?_
                      try simp only [seqQ_normal, seqQ_exit, seqQ_ret, blockQ_normal, blockQ_ret, blockQ_exit, invQ_exit, invQ_ret, endQ_eq, if_true, reduceIte, Nat.reduceEqDiff, reduceCtorEq]
                      refine aw_region_q r5_13 ?_
                      (repeat (first | simp [-invQ_normal, l5_13, i59_1, i60_5, i61_8, i62_10, i63_11, i64_14, i65_13, i66_12, hg, c68, hM, g70, aBin, aUn, pow2_ne, pow2_ne_i, eqCells, eqCell, int_beq, splice, alloc1_loc, box1_loc, bld, aFill] | simp (disch := omega) only [wrap_i64, wrap_u64, tmod_nn, tdiv_nn, idx_w, idx_i, app_w]))
                      -- cont 3: t73=F t13=T t92=F
                      simp only [invQ_normal]
                      rw [hI46]
                      refine ⟨_, ?_, i + 1, rfl, ?_⟩
                      · omega
                      · (repeat (first | simp [-invQ_normal, i59_1, i60_5, i61_8, i62_10, i63_11, i64_14, i65_13, i66_12, hg, c68, hM, g70, aBin, aUn, pow2_ne, pow2_ne_i, eqCells, eqCell, int_beq, splice, alloc1_loc, box1_loc, bld, aFill] | simp (disch := omega) only [wrap_i64, wrap_u64, tmod_nn, tdiv_nn, idx_w, idx_i, app_w])) <;> (omega)
              · simp only [AVal.raw.injEq, Value.bool.injEq, decide_eq_false_iff_not, decide_eq_true_eq, Bool.not_eq_true, Bool.not_eq_false, Bool.not_eq_eq_eq_not, Bool.not_true, Bool.not_false, Bool.and_eq_true, Bool.or_eq_true, Bool.or_eq_false_iff] at c55
                refine aw_exit ?_
                try simp only [seqQ_normal, seqQ_exit, seqQ_ret, blockQ_normal, blockQ_ret, blockQ_exit, invQ_exit, invQ_ret, endQ_eq, if_true, reduceIte, Nat.reduceEqDiff, reduceCtorEq]
                refine aw_seq ?_
                refine aw_seq (aw_region_q r5_21 ?_)
                (repeat (first | simp [-invQ_normal, l5_21, i48_1, i49_5, i50_8, i51_10, i52_11, i53_12, hg, c55, aBin, aUn, pow2_ne, pow2_ne_i, eqCells, eqCell, int_beq, splice, alloc1_loc, box1_loc, bld, aFill] | simp (disch := omega) only [wrap_i64, wrap_u64, tmod_nn, tdiv_nn, idx_w, idx_i, app_w]))
                refine aw_block ?_
                obtain ⟨I72, hI72⟩ : ∃ I : Nat → St → Prop, I = fun k s => ∃ (i : Nat), k = l.length - i ∧ s.get 1 = .sl (intsL l) ∧ s.get 5 = .raw (.bool true) ∧ s.get 8 = .sl ((ofA l).map wordC) ∧ s.get 10 = .sl (intsL (listI (ofA l))) ∧ s.get 11 = .raw (.int .i64 0) ∧ s.get 15 = .raw (.int .i64 i) ∧ s.m.gs = gs ∧ (i ≤ l.length) := ⟨_, rfl⟩
                refine aw_inv2 I72 ?_ ?_
                · rw [hI72]
                  refine ⟨_, 0, rfl, ?_⟩
                  (repeat (first | simp [-invQ_normal, i48_1, i49_5, i50_8, i51_10, i52_11, i53_12, hg, c55, aBin, aUn, pow2_ne, pow2_ne_i, eqCells, eqCell, int_beq, splice, alloc1_loc, box1_loc, bld, aFill] | simp (disch := omega) only [wrap_i64, wrap_u64, tmod_nn, tdiv_nn, idx_w, idx_i, app_w])) <;> (omega)
                · intro k s hI0
                  rw [hI72] at hI0
                  obtain ⟨i, k73, i74_1, i75_5, i76_8, i77_10, i78_11, i79_15, hg, hi⟩ := hI0
                  unfold b5_L0
                  refine aw_seq ?_
                  refine aw_seq (aw_region_q r5_22 ?_)
                  (repeat (first | simp [-invQ_normal, l5_22, i74_1, i75_5, i76_8, i77_10, i78_11, i79_15, hg, aBin, aUn, pow2_ne, pow2_ne_i, eqCells, eqCell, int_beq, splice, alloc1_loc, box1_loc, bld, aFill] | simp (disch := omega) only [wrap_i64, wrap_u64, tmod_nn, tdiv_nn, idx_w, idx_i, app_w]))
                  refine aw_cond_v ?_
                  (repeat (first | simp [-invQ_normal, i74_1, i75_5, i76_8, i77_10, i78_11, i79_15, hg, aBin, aUn, pow2_ne, pow2_ne_i, eqCells, eqCell, int_beq, splice, alloc1_loc, box1_loc, bld, aFill] | simp (disch := omega) only [wrap_i64, wrap_u64, tmod_nn, tdiv_nn, idx_w, idx_i, app_w]))
                  refine condV_split ⟨_, rfl⟩ (fun c81 => ?_) (fun c81 => ?_)
                  · simp only [AVal.raw.injEq, Value.bool.injEq, decide_eq_false_iff_not, decide_eq_true_eq, Bool.not_eq_true, Bool.not_eq_false, Bool.not_eq_eq_eq_not, Bool.not_true, Bool.not_false, Bool.and_eq_true, Bool.or_eq_true, Bool.or_eq_false_iff] at c81
                    refine aw_skip ?_
                    try simp only [seqQ_normal, seqQ_exit, seqQ_ret, blockQ_normal, blockQ_ret, blockQ_exit, invQ_exit, invQ_ret, endQ_eq, if_true, reduceIte, Nat.reduceEqDiff, reduceCtorEq]
                    refine aw_seq ?_
                    refine aw_block ?_
                    refine aw_seq (aw_region_q r5_24 ?_)
                    have hin2 : l[i] ∈ l := List.getElem_mem _
                    have w0 := all_within hall _ hin2
                    have w1 := w0.1
                    have w2 := w0.2
                    have w3 := of_has hall hin2
                    (repeat (first | simp [-invQ_normal, l5_24, i74_1, i75_5, i76_8, i77_10, i78_11, i79_15, hg, c81, hog, w1, w2, w3, aBin, aUn, pow2_ne, pow2_ne_i, eqCells, eqCell, int_beq, splice, alloc1_loc, box1_loc, bld, aFill] | simp (disch := omega) only [wrap_i64, wrap_u64, tmod_nn, tdiv_nn, idx_w, idx_i, app_w]))
                    refine wpC_vals (ev_Has (ofA l) (good_len hog) hob _ (hin _ (by simp)) _ _) (by simp) (by simp [isRow]) (by simp) (by first | simp | assumption) (by simp [plainArg, plain1, AVal.shared, AVal.shared.sharedOne, rawCell]) ⟨by simp, ?_⟩
                    (repeat (first | simp [-invQ_normal, i74_1, i75_5, i76_8, i77_10, i78_11, i79_15, hg, c81, hog, w1, w2, w3, aBin, aUn, pow2_ne, pow2_ne_i, eqCells, eqCell, int_beq, splice, alloc1_loc, box1_loc, bld, aFill] | simp (disch := omega) only [wrap_i64, wrap_u64, tmod_nn, tdiv_nn, idx_w, idx_i, app_w]))
                    refine aw_seq (aw_region_q r5_25 ?_)
                    (repeat (first | simp [-invQ_normal, l5_25, i74_1, i75_5, i76_8, i77_10, i78_11, i79_15, hg, c81, hog, w1, w2, w3, aBin, aUn, pow2_ne, pow2_ne_i, eqCells, eqCell, int_beq, splice, alloc1_loc, box1_loc, bld, aFill] | simp (disch := omega) only [wrap_i64, wrap_u64, tmod_nn, tdiv_nn, idx_w, idx_i, app_w]))
                    refine aw_cond_0 (by (repeat (first | simp [-invQ_normal, i74_1, i75_5, i76_8, i77_10, i78_11, i79_15, hg, c81, hog, w1, w2, w3, aBin, aUn, pow2_ne, pow2_ne_i, eqCells, eqCell, int_beq, splice, alloc1_loc, box1_loc, bld, aFill] | simp (disch := omega) only [wrap_i64, wrap_u64, tmod_nn, tdiv_nn, idx_w, idx_i, app_w]))) ?_
                    refine aw_skip ?_
                    try simp only [seqQ_normal, seqQ_exit, seqQ_ret, blockQ_normal, blockQ_ret, blockQ_exit, invQ_exit, invQ_ret, endQ_eq, if_true, reduceIte, Nat.reduceEqDiff, reduceCtorEq]
                    refine aw_region_q r5_23 ?_
                    (repeat (first | simp [-invQ_normal, l5_23, i74_1, i75_5, i76_8, i77_10, i78_11, i79_15, hg, c81, hog, w1, w2, w3, aBin, aUn, pow2_ne, pow2_ne_i, eqCells, eqCell, int_beq, splice, alloc1_loc, box1_loc, bld, aFill] | simp (disch := omega) only [wrap_i64, wrap_u64, tmod_nn, tdiv_nn, idx_w, idx_i, app_w]))
                    -- cont 1: t109=T t119=T
                    simp only [invQ_normal]
                    rw [hI72]
                    refine ⟨_, ?_, i + 1, rfl, ?_⟩
                    · omega
                    · (repeat (first | simp [-invQ_normal, i74_1, i75_5, i76_8, i77_10, i78_11, i79_15, hg, c81, hog, w1, w2, w3, aBin, aUn, pow2_ne, pow2_ne_i, eqCells, eqCell, int_beq, splice, alloc1_loc, box1_loc, bld, aFill] | simp (disch := omega) only [wrap_i64, wrap_u64, tmod_nn, tdiv_nn, idx_w, idx_i, app_w])) <;> (omega)
                  · simp only [AVal.raw.injEq, Value.bool.injEq, decide_eq_false_iff_not, decide_eq_true_eq, Bool.not_eq_true, Bool.not_eq_false, Bool.not_eq_eq_eq_not, Bool.not_true, Bool.not_false, Bool.and_eq_true, Bool.or_eq_true, Bool.or_eq_false_iff] at c81
                    refine aw_exit ?_
                    try simp only [seqQ_normal, seqQ_exit, seqQ_ret, blockQ_normal, blockQ_ret, blockQ_exit, invQ_exit, invQ_ret, endQ_eq, if_true, reduceIte, Nat.reduceEqDiff, reduceCtorEq]
                    refine aw_seq (aw_region_q r5_27 ?_)
                    skip
                    (repeat (first | simp [-invQ_normal, l5_27, i74_1, i75_5, i76_8, i77_10, i78_11, i79_15, hg, c81, hog, aBin, aUn, pow2_ne, pow2_ne_i, eqCells, eqCell, int_beq, splice, alloc1_loc, box1_loc, bld, aFill] | simp (disch := omega) only [wrap_i64, wrap_u64, tmod_nn, tdiv_nn, idx_w, idx_i, app_w]))
                    refine wpC_vals (ev15 (x := extL) rfl (ofA l) (by have := good_len hog; omega) _ _) (by simp) (by simp [isRow]) (by simp) (by first | simp | assumption) (by simp [plainArg, plain1, AVal.shared, AVal.shared.sharedOne, rawCell]) ⟨by simp, ?_⟩
                    (repeat (first | simp [-invQ_normal, i74_1, i75_5, i76_8, i77_10, i78_11, i79_15, hg, c81, hog, aBin, aUn, pow2_ne, pow2_ne_i, eqCells, eqCell, int_beq, splice, alloc1_loc, box1_loc, bld, aFill] | simp (disch := omega) only [wrap_i64, wrap_u64, tmod_nn, tdiv_nn, idx_w, idx_i, app_w]))
                    refine aw_ret (retQ_vals (gs := gs) [.raw (.bool true)] (.inr rfl) ?_ (by simp [givenAs, AVal.fixed, rawCell]) (by (repeat (first | simp [-invQ_normal, i74_1, i75_5, i76_8, i77_10, i78_11, i79_15, hg, c81, hog, aBin, aUn, pow2_ne, pow2_ne_i, eqCells, eqCell, int_beq, splice, alloc1_loc, box1_loc, bld, aFill] | simp (disch := omega) only [wrap_i64, wrap_u64, tmod_nn, tdiv_nn, idx_w, idx_i, app_w]))) (by rw [← hr0]; first | done | rfl))
                    (repeat (first | simp [-invQ_normal, resultOf, i74_1, i75_5, i76_8, i77_10, i78_11, i79_15, hg, c81, hog, aBin, aUn, pow2_ne, pow2_ne_i, eqCells, eqCell, int_beq, splice, alloc1_loc, box1_loc, bld, aFill] | simp (disch := omega) only [wrap_i64, wrap_u64, tmod_nn, tdiv_nn, idx_w, idx_i, app_w])) <;> (trace_state; sorry)

end Go.Proofs.YtjcgaelibiiiiaaDoor
