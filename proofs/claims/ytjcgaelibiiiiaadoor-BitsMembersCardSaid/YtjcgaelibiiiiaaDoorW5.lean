/-
  WALKS over the abstract interpreter: fescuelaw02.BitsMembers, BitsLaws. Printed by this seat's own program (genwalk.py) out of door5.py.
-/
import Derived.Test.YtjcgaelibiiiiaaDoorSets
set_option linter.unusedVariables false
set_option linter.unusedSimpArgs false
namespace Go.Proofs.YtjcgaelibiiiiaaDoor
open Go.Abs

theorem run19 : call (EX extL) 100 19 [] 0 ⟨⟨[]⟩, 0⟩ = some ([.v (.raw (.bool true))], ⟨⟨[]⟩, 0⟩) := by kernel_rfl
theorem ev_alive (gs : GS) (h : gs = ⟨⟨[]⟩, 0⟩) : Evals E 19 [] gs.n gs ([.v (.raw (.bool true))], gs) := by
  subst h
  exact ⟨100, run19⟩
theorem good_or {a b : List (Int × Int)} (ha : goodI (-1) a = true) (hb : goodI (-1) b = true) : goodI (-1) (mergeW orF a b) = true := (merge_spec (f := orF) rfl a b (-1) ha hb).1
theorem good_and {a b : List (Int × Int)} (ha : goodI (-1) a = true) (hb : goodI (-1) b = true) : goodI (-1) (mergeW andF a b) = true := (merge_spec (f := andF) rfl a b (-1) ha hb).1
theorem good_minus {a b : List (Int × Int)} (ha : goodI (-1) a = true) (hb : goodI (-1) b = true) : goodI (-1) (mergeW notF a b) = true := (merge_spec (f := notF) rfl a b (-1) ha hb).1
theorem len_or {a b : List (Int × Int)} (ha : goodI (-1) a = true) (hb : goodI (-1) b = true) : (mergeW orF a b).length ≤ 20000 := Nat.le_trans (good_len (good_or ha hb)) (by decide)

set_option maxHeartbeats 400000 in
theorem ev_BitsMembers (a b : List (Int × Int)) (n : Int) (hn : -9223372036854775808 ≤ n ∧ n < 9223372036854775808) (ha : bits64 a) (hb : bits64 b) (base : Nat) (gs : GS) (h0 : gs = ⟨⟨[]⟩, 0⟩) : Evals E 4 [.sl (a.map wordC), .sl (b.map wordC), .raw (.int .i64 n)] base gs ([.v (.raw (.bool true))], gs) := by
  refine evals_walk 150 #[.tmp 6] rfl (by kernel_rfl) b4_eq (by kernel_rfl) (by kernel_rfl) (by simp) fun s hs hm => ?_
  have a0 : s.get 0 = .sl (a.map wordC) := by simpa using hs 0
  have a1 : s.get 1 = .sl (b.map wordC) := by simpa using hs 1
  have a2 : s.get 2 = .raw (.int .i64 n) := by simpa using hs 2
  have hg : s.m.gs = gs := by rw [hm]
  clear hs
  generalize hr0 : (([.v (.raw (.bool true))], gs) : List RV × GS) = r0
  unfold b4
  refine aw_seq (aw_region_q r4_0 ?_)
  (repeat (first | simp [-invQ_normal, l4_0, a0, a1, a2, hg, aBin, aUn, pow2_ne, pow2_ne_i, eqCells, eqCell, int_beq, splice, alloc1_loc, box1_loc, bld, aFill] | simp (disch := omega) only [wrap_i64, wrap_u64, tmod_nn, tdiv_nn, idx_w, idx_i, app_w]))
  refine aw_seq (aw_region_q r4_1 ?_)
  (repeat (first | simp [-invQ_normal, l4_1, a0, a1, a2, hg, aBin, aUn, pow2_ne, pow2_ne_i, eqCells, eqCell, int_beq, splice, alloc1_loc, box1_loc, bld, aFill] | simp (disch := omega) only [wrap_i64, wrap_u64, tmod_nn, tdiv_nn, idx_w, idx_i, app_w]))
  refine wpC_vals (ev_alive s.m.gs (by rw [hg, h0])) (by simp) (by simp [isRow]) (by simp) (by first | simp | assumption) (by simp [plainArg, plain1, AVal.shared, AVal.shared.sharedOne, rawCell]) ⟨by simp, ?_⟩
  (repeat (first | simp [-invQ_normal, a0, a1, a2, hg, aBin, aUn, pow2_ne, pow2_ne_i, eqCells, eqCell, int_beq, splice, alloc1_loc, box1_loc, bld, aFill] | simp (disch := omega) only [wrap_i64, wrap_u64, tmod_nn, tdiv_nn, idx_w, idx_i, app_w]))
  refine aw_seq ?_
  refine aw_seq (aw_region_q r4_2 ?_)
  (repeat (first | simp [-invQ_normal, l4_2, a0, a1, a2, hg, aBin, aUn, pow2_ne, pow2_ne_i, eqCells, eqCell, int_beq, splice, alloc1_loc, box1_loc, bld, aFill] | simp (disch := omega) only [wrap_i64, wrap_u64, tmod_nn, tdiv_nn, idx_w, idx_i, app_w]))
  refine wpG_split ⟨_, rfl⟩ (fun g1 => ?_) (fun g1 => ?_)
  · simp only [AVal.raw.injEq, Value.bool.injEq, decide_eq_false_iff_not, decide_eq_true_eq, Bool.not_eq_true, Bool.not_eq_false, Bool.not_eq_eq_eq_not, Bool.not_true, Bool.not_false, Bool.and_eq_true, Bool.or_eq_true, Bool.or_eq_false_iff] at g1
    (repeat (first | simp [-invQ_normal, a0, a1, a2, hg, g1, aBin, aUn, pow2_ne, pow2_ne_i, eqCells, eqCell, int_beq, splice, alloc1_loc, box1_loc, bld, aFill] | simp (disch := omega) only [wrap_i64, wrap_u64, tmod_nn, tdiv_nn, idx_w, idx_i, app_w]))
    refine aw_cond_1 (by (repeat (first | simp [-invQ_normal, a0, a1, a2, hg, g1, aBin, aUn, pow2_ne, pow2_ne_i, eqCells, eqCell, int_beq, splice, alloc1_loc, box1_loc, bld, aFill] | simp (disch := omega) only [wrap_i64, wrap_u64, tmod_nn, tdiv_nn, idx_w, idx_i, app_w]))) ?_
    refine aw_seq (aw_region_q r4_3 ?_)
    (repeat (first | simp [-invQ_normal, l4_3, a0, a1, a2, hg, g1, aBin, aUn, pow2_ne, pow2_ne_i, eqCells, eqCell, int_beq, splice, alloc1_loc, box1_loc, bld, aFill] | simp (disch := omega) only [wrap_i64, wrap_u64, tmod_nn, tdiv_nn, idx_w, idx_i, app_w]))
    refine aw_ret (retQ_vals (gs := gs) [.raw (.bool true)] (.inr rfl) ?_ (by simp [givenAs, AVal.fixed, rawCell]) (by (repeat (first | simp [-invQ_normal, a0, a1, a2, hg, g1, aBin, aUn, pow2_ne, pow2_ne_i, eqCells, eqCell, int_beq, splice, alloc1_loc, box1_loc, bld, aFill] | simp (disch := omega) only [wrap_i64, wrap_u64, tmod_nn, tdiv_nn, idx_w, idx_i, app_w]))) (by rw [← hr0]; first | done | rfl))
    (repeat (first | simp [-invQ_normal, resultOf, a0, a1, a2, hg, g1, aBin, aUn, pow2_ne, pow2_ne_i, eqCells, eqCell, int_beq, splice, alloc1_loc, box1_loc, bld, aFill] | simp (disch := omega) only [wrap_i64, wrap_u64, tmod_nn, tdiv_nn, idx_w, idx_i, app_w])) <;> (trace_state; sorry)
  · simp only [AVal.raw.injEq, Value.bool.injEq, decide_eq_false_iff_not, decide_eq_true_eq, Bool.not_eq_true, Bool.not_eq_false, Bool.not_eq_eq_eq_not, Bool.not_true, Bool.not_false, Bool.and_eq_true, Bool.or_eq_true, Bool.or_eq_false_iff] at g1
    (repeat (first | simp [-invQ_normal, a0, a1, a2, hg, g1, aBin, aUn, pow2_ne, pow2_ne_i, eqCells, eqCell, int_beq, splice, alloc1_loc, box1_loc, bld, aFill] | simp (disch := omega) only [wrap_i64, wrap_u64, tmod_nn, tdiv_nn, idx_w, idx_i, app_w]))
    refine wpG_split ⟨_, rfl⟩ (fun g2 => ?_) (fun g2 => ?_)
    · simp only [AVal.raw.injEq, Value.bool.injEq, decide_eq_false_iff_not, decide_eq_true_eq, Bool.not_eq_true, Bool.not_eq_false, Bool.not_eq_eq_eq_not, Bool.not_true, Bool.not_false, Bool.and_eq_true, Bool.or_eq_true, Bool.or_eq_false_iff] at g2
      (repeat (first | simp [-invQ_normal, a0, a1, a2, hg, g1, g2, aBin, aUn, pow2_ne, pow2_ne_i, eqCells, eqCell, int_beq, splice, alloc1_loc, box1_loc, bld, aFill] | simp (disch := omega) only [wrap_i64, wrap_u64, tmod_nn, tdiv_nn, idx_w, idx_i, app_w]))
      refine aw_cond_1 (by (repeat (first | simp [-invQ_normal, a0, a1, a2, hg, g1, g2, aBin, aUn, pow2_ne, pow2_ne_i, eqCells, eqCell, int_beq, splice, alloc1_loc, box1_loc, bld, aFill] | simp (disch := omega) only [wrap_i64, wrap_u64, tmod_nn, tdiv_nn, idx_w, idx_i, app_w]))) ?_
      refine aw_seq (aw_region_q r4_3 ?_)
      (repeat (first | simp [-invQ_normal, l4_3, a0, a1, a2, hg, g1, g2, aBin, aUn, pow2_ne, pow2_ne_i, eqCells, eqCell, int_beq, splice, alloc1_loc, box1_loc, bld, aFill] | simp (disch := omega) only [wrap_i64, wrap_u64, tmod_nn, tdiv_nn, idx_w, idx_i, app_w]))
      refine aw_ret (retQ_vals (gs := gs) [.raw (.bool true)] (.inr rfl) ?_ (by simp [givenAs, AVal.fixed, rawCell]) (by (repeat (first | simp [-invQ_normal, a0, a1, a2, hg, g1, g2, aBin, aUn, pow2_ne, pow2_ne_i, eqCells, eqCell, int_beq, splice, alloc1_loc, box1_loc, bld, aFill] | simp (disch := omega) only [wrap_i64, wrap_u64, tmod_nn, tdiv_nn, idx_w, idx_i, app_w]))) (by rw [← hr0]; first | done | rfl))
      (repeat (first | simp [-invQ_normal, resultOf, a0, a1, a2, hg, g1, g2, aBin, aUn, pow2_ne, pow2_ne_i, eqCells, eqCell, int_beq, splice, alloc1_loc, box1_loc, bld, aFill] | simp (disch := omega) only [wrap_i64, wrap_u64, tmod_nn, tdiv_nn, idx_w, idx_i, app_w])) <;> (trace_state; sorry)
    · simp only [AVal.raw.injEq, Value.bool.injEq, decide_eq_false_iff_not, decide_eq_true_eq, Bool.not_eq_true, Bool.not_eq_false, Bool.not_eq_eq_eq_not, Bool.not_true, Bool.not_false, Bool.and_eq_true, Bool.or_eq_true, Bool.or_eq_false_iff] at g2
      (repeat (first | simp [-invQ_normal, a0, a1, a2, hg, g1, g2, aBin, aUn, pow2_ne, pow2_ne_i, eqCells, eqCell, int_beq, splice, alloc1_loc, box1_loc, bld, aFill] | simp (disch := omega) only [wrap_i64, wrap_u64, tmod_nn, tdiv_nn, idx_w, idx_i, app_w]))
      refine wpC_vals (ev15 (x := extL) rfl a (by omega) _ _) (by simp) (by simp [isRow]) (by simp) (by first | simp | assumption) (by simp [plainArg, plain1, AVal.shared, AVal.shared.sharedOne, rawCell]) ⟨by simp, ?_⟩
      (repeat (first | simp [-invQ_normal, a0, a1, a2, hg, g1, g2, aBin, aUn, pow2_ne, pow2_ne_i, eqCells, eqCell, int_beq, splice, alloc1_loc, box1_loc, bld, aFill] | simp (disch := omega) only [wrap_i64, wrap_u64, tmod_nn, tdiv_nn, idx_w, idx_i, app_w]))
      refine wpG_split ⟨_, rfl⟩ (fun g3 => ?_) (fun g3 => ?_)
      · simp only [AVal.raw.injEq, Value.bool.injEq, decide_eq_false_iff_not, decide_eq_true_eq, Bool.not_eq_true, Bool.not_eq_false, Bool.not_eq_eq_eq_not, Bool.not_true, Bool.not_false, Bool.and_eq_true, Bool.or_eq_true, Bool.or_eq_false_iff] at g3
        (repeat (first | simp [-invQ_normal, a0, a1, a2, hg, g1, g2, g3, aBin, aUn, pow2_ne, pow2_ne_i, eqCells, eqCell, int_beq, splice, alloc1_loc, box1_loc, bld, aFill] | simp (disch := omega) only [wrap_i64, wrap_u64, tmod_nn, tdiv_nn, idx_w, idx_i, app_w]))
        refine aw_cond_1 (by (repeat (first | simp [-invQ_normal, a0, a1, a2, hg, g1, g2, g3, aBin, aUn, pow2_ne, pow2_ne_i, eqCells, eqCell, int_beq, splice, alloc1_loc, box1_loc, bld, aFill] | simp (disch := omega) only [wrap_i64, wrap_u64, tmod_nn, tdiv_nn, idx_w, idx_i, app_w]))) ?_
        refine aw_seq (aw_region_q r4_3 ?_)
        (repeat (first | simp [-invQ_normal, l4_3, a0, a1, a2, hg, g1, g2, g3, aBin, aUn, pow2_ne, pow2_ne_i, eqCells, eqCell, int_beq, splice, alloc1_loc, box1_loc, bld, aFill] | simp (disch := omega) only [wrap_i64, wrap_u64, tmod_nn, tdiv_nn, idx_w, idx_i, app_w]))
        refine aw_ret (retQ_vals (gs := gs) [.raw (.bool true)] (.inr rfl) ?_ (by simp [givenAs, AVal.fixed, rawCell]) (by (repeat (first | simp [-invQ_normal, a0, a1, a2, hg, g1, g2, g3, aBin, aUn, pow2_ne, pow2_ne_i, eqCells, eqCell, int_beq, splice, alloc1_loc, box1_loc, bld, aFill] | simp (disch := omega) only [wrap_i64, wrap_u64, tmod_nn, tdiv_nn, idx_w, idx_i, app_w]))) (by rw [← hr0]; first | done | rfl))
        (repeat (first | simp [-invQ_normal, resultOf, a0, a1, a2, hg, g1, g2, g3, aBin, aUn, pow2_ne, pow2_ne_i, eqCells, eqCell, int_beq, splice, alloc1_loc, box1_loc, bld, aFill] | simp (disch := omega) only [wrap_i64, wrap_u64, tmod_nn, tdiv_nn, idx_w, idx_i, app_w])) <;> (trace_state; sorry)
      · simp only [AVal.raw.injEq, Value.bool.injEq, decide_eq_false_iff_not, decide_eq_true_eq, Bool.not_eq_true, Bool.not_eq_false, Bool.not_eq_eq_eq_not, Bool.not_true, Bool.not_false, Bool.and_eq_true, Bool.or_eq_true, Bool.or_eq_false_iff] at g3
        have hga : goodI (-1) a = true := g3
        (repeat (first | simp [-invQ_normal, a0, a1, a2, hg, g1, g2, g3, hga, aBin, aUn, pow2_ne, pow2_ne_i, eqCells, eqCell, int_beq, splice, alloc1_loc, box1_loc, bld, aFill] | simp (disch := omega) only [wrap_i64, wrap_u64, tmod_nn, tdiv_nn, idx_w, idx_i, app_w]))
        refine wpC_vals (ev15 (x := extL) rfl b (by omega) _ _) (by simp) (by simp [isRow]) (by simp) (by first | simp | assumption) (by simp [plainArg, plain1, AVal.shared, AVal.shared.sharedOne, rawCell]) ⟨by simp, ?_⟩
        (repeat (first | simp [-invQ_normal, a0, a1, a2, hg, g1, g2, g3, hga, aBin, aUn, pow2_ne, pow2_ne_i, eqCells, eqCell, int_beq, splice, alloc1_loc, box1_loc, bld, aFill] | simp (disch := omega) only [wrap_i64, wrap_u64, tmod_nn, tdiv_nn, idx_w, idx_i, app_w]))
        refine wpG_split ⟨_, rfl⟩ (fun g4 => ?_) (fun g4 => ?_)
        · simp only [AVal.raw.injEq, Value.bool.injEq, decide_eq_false_iff_not, decide_eq_true_eq, Bool.not_eq_true, Bool.not_eq_false, Bool.not_eq_eq_eq_not, Bool.not_true, Bool.not_false, Bool.and_eq_true, Bool.or_eq_true, Bool.or_eq_false_iff] at g4
          (repeat (first | simp [-invQ_normal, a0, a1, a2, hg, g1, g2, g3, hga, g4, aBin, aUn, pow2_ne, pow2_ne_i, eqCells, eqCell, int_beq, splice, alloc1_loc, box1_loc, bld, aFill] | simp (disch := omega) only [wrap_i64, wrap_u64, tmod_nn, tdiv_nn, idx_w, idx_i, app_w]))
          refine aw_cond_1 (by (repeat (first | simp [-invQ_normal, a0, a1, a2, hg, g1, g2, g3, hga, g4, aBin, aUn, pow2_ne, pow2_ne_i, eqCells, eqCell, int_beq, splice, alloc1_loc, box1_loc, bld, aFill] | simp (disch := omega) only [wrap_i64, wrap_u64, tmod_nn, tdiv_nn, idx_w, idx_i, app_w]))) ?_
          refine aw_seq (aw_region_q r4_3 ?_)
          (repeat (first | simp [-invQ_normal, l4_3, a0, a1, a2, hg, g1, g2, g3, hga, g4, aBin, aUn, pow2_ne, pow2_ne_i, eqCells, eqCell, int_beq, splice, alloc1_loc, box1_loc, bld, aFill] | simp (disch := omega) only [wrap_i64, wrap_u64, tmod_nn, tdiv_nn, idx_w, idx_i, app_w]))
          refine aw_ret (retQ_vals (gs := gs) [.raw (.bool true)] (.inr rfl) ?_ (by simp [givenAs, AVal.fixed, rawCell]) (by (repeat (first | simp [-invQ_normal, a0, a1, a2, hg, g1, g2, g3, hga, g4, aBin, aUn, pow2_ne, pow2_ne_i, eqCells, eqCell, int_beq, splice, alloc1_loc, box1_loc, bld, aFill] | simp (disch := omega) only [wrap_i64, wrap_u64, tmod_nn, tdiv_nn, idx_w, idx_i, app_w]))) (by rw [← hr0]; first | done | rfl))
          (repeat (first | simp [-invQ_normal, resultOf, a0, a1, a2, hg, g1, g2, g3, hga, g4, aBin, aUn, pow2_ne, pow2_ne_i, eqCells, eqCell, int_beq, splice, alloc1_loc, box1_loc, bld, aFill] | simp (disch := omega) only [wrap_i64, wrap_u64, tmod_nn, tdiv_nn, idx_w, idx_i, app_w])) <;> (trace_state; sorry)
        · simp only [AVal.raw.injEq, Value.bool.injEq, decide_eq_false_iff_not, decide_eq_true_eq, Bool.not_eq_true, Bool.not_eq_false, Bool.not_eq_eq_eq_not, Bool.not_true, Bool.not_false, Bool.and_eq_true, Bool.or_eq_true, Bool.or_eq_false_iff] at g4
          have hgb : goodI (-1) b = true := g4
          (repeat (first | simp [-invQ_normal, a0, a1, a2, hg, g1, g2, g3, hga, g4, hgb, aBin, aUn, pow2_ne, pow2_ne_i, eqCells, eqCell, int_beq, splice, alloc1_loc, box1_loc, bld, aFill] | simp (disch := omega) only [wrap_i64, wrap_u64, tmod_nn, tdiv_nn, idx_w, idx_i, app_w]))
          refine wpG_split ⟨_, rfl⟩ (fun g5 => ?_) (fun g5 => ?_)
          · simp only [AVal.raw.injEq, Value.bool.injEq, decide_eq_false_iff_not, decide_eq_true_eq, Bool.not_eq_true, Bool.not_eq_false, Bool.not_eq_eq_eq_not, Bool.not_true, Bool.not_false, Bool.and_eq_true, Bool.or_eq_true, Bool.or_eq_false_iff] at g5
            (repeat (first | simp [-invQ_normal, a0, a1, a2, hg, g1, g2, g3, hga, g4, hgb, g5, aBin, aUn, pow2_ne, pow2_ne_i, eqCells, eqCell, int_beq, splice, alloc1_loc, box1_loc, bld, aFill] | simp (disch := omega) only [wrap_i64, wrap_u64, tmod_nn, tdiv_nn, idx_w, idx_i, app_w]))
            refine aw_cond_1 (by (repeat (first | simp [-invQ_normal, a0, a1, a2, hg, g1, g2, g3, hga, g4, hgb, g5, aBin, aUn, pow2_ne, pow2_ne_i, eqCells, eqCell, int_beq, splice, alloc1_loc, box1_loc, bld, aFill] | simp (disch := omega) only [wrap_i64, wrap_u64, tmod_nn, tdiv_nn, idx_w, idx_i, app_w]))) ?_
            refine aw_seq (aw_region_q r4_3 ?_)
            (repeat (first | simp [-invQ_normal, l4_3, a0, a1, a2, hg, g1, g2, g3, hga, g4, hgb, g5, aBin, aUn, pow2_ne, pow2_ne_i, eqCells, eqCell, int_beq, splice, alloc1_loc, box1_loc, bld, aFill] | simp (disch := omega) only [wrap_i64, wrap_u64, tmod_nn, tdiv_nn, idx_w, idx_i, app_w]))
            refine aw_ret (retQ_vals (gs := gs) [.raw (.bool true)] (.inr rfl) ?_ (by simp [givenAs, AVal.fixed, rawCell]) (by (repeat (first | simp [-invQ_normal, a0, a1, a2, hg, g1, g2, g3, hga, g4, hgb, g5, aBin, aUn, pow2_ne, pow2_ne_i, eqCells, eqCell, int_beq, splice, alloc1_loc, box1_loc, bld, aFill] | simp (disch := omega) only [wrap_i64, wrap_u64, tmod_nn, tdiv_nn, idx_w, idx_i, app_w]))) (by rw [← hr0]; first | done | rfl))
            (repeat (first | simp [-invQ_normal, resultOf, a0, a1, a2, hg, g1, g2, g3, hga, g4, hgb, g5, aBin, aUn, pow2_ne, pow2_ne_i, eqCells, eqCell, int_beq, splice, alloc1_loc, box1_loc, bld, aFill] | simp (disch := omega) only [wrap_i64, wrap_u64, tmod_nn, tdiv_nn, idx_w, idx_i, app_w])) <;> (trace_state; sorry)
          · simp only [AVal.raw.injEq, Value.bool.injEq, decide_eq_false_iff_not, decide_eq_true_eq, Bool.not_eq_true, Bool.not_eq_false, Bool.not_eq_eq_eq_not, Bool.not_true, Bool.not_false, Bool.and_eq_true, Bool.or_eq_true, Bool.or_eq_false_iff] at g5
            (repeat (first | simp [-invQ_normal, a0, a1, a2, hg, g1, g2, g3, hga, g4, hgb, g5, aBin, aUn, pow2_ne, pow2_ne_i, eqCells, eqCell, int_beq, splice, alloc1_loc, box1_loc, bld, aFill] | simp (disch := omega) only [wrap_i64, wrap_u64, tmod_nn, tdiv_nn, idx_w, idx_i, app_w]))
            refine wpG_split ⟨_, rfl⟩ (fun g6 => ?_) (fun g6 => ?_)
            · simp only [AVal.raw.injEq, Value.bool.injEq, decide_eq_false_iff_not, decide_eq_true_eq, Bool.not_eq_true, Bool.not_eq_false, Bool.not_eq_eq_eq_not, Bool.not_true, Bool.not_false, Bool.and_eq_true, Bool.or_eq_true, Bool.or_eq_false_iff] at g6
              (repeat (first | simp [-invQ_normal, a0, a1, a2, hg, g1, g2, g3, hga, g4, hgb, g5, g6, aBin, aUn, pow2_ne, pow2_ne_i, eqCells, eqCell, int_beq, splice, alloc1_loc, box1_loc, bld, aFill] | simp (disch := omega) only [wrap_i64, wrap_u64, tmod_nn, tdiv_nn, idx_w, idx_i, app_w]))
              refine aw_cond_1 (by (repeat (first | simp [-invQ_normal, a0, a1, a2, hg, g1, g2, g3, hga, g4, hgb, g5, g6, aBin, aUn, pow2_ne, pow2_ne_i, eqCells, eqCell, int_beq, splice, alloc1_loc, box1_loc, bld, aFill] | simp (disch := omega) only [wrap_i64, wrap_u64, tmod_nn, tdiv_nn, idx_w, idx_i, app_w]))) ?_
              refine aw_seq (aw_region_q r4_3 ?_)
              (repeat (first | simp [-invQ_normal, l4_3, a0, a1, a2, hg, g1, g2, g3, hga, g4, hgb, g5, g6, aBin, aUn, pow2_ne, pow2_ne_i, eqCells, eqCell, int_beq, splice, alloc1_loc, box1_loc, bld, aFill] | simp (disch := omega) only [wrap_i64, wrap_u64, tmod_nn, tdiv_nn, idx_w, idx_i, app_w]))
              refine aw_ret (retQ_vals (gs := gs) [.raw (.bool true)] (.inr rfl) ?_ (by simp [givenAs, AVal.fixed, rawCell]) (by (repeat (first | simp [-invQ_normal, a0, a1, a2, hg, g1, g2, g3, hga, g4, hgb, g5, g6, aBin, aUn, pow2_ne, pow2_ne_i, eqCells, eqCell, int_beq, splice, alloc1_loc, box1_loc, bld, aFill] | simp (disch := omega) only [wrap_i64, wrap_u64, tmod_nn, tdiv_nn, idx_w, idx_i, app_w]))) (by rw [← hr0]; first | done | rfl))
              (repeat (first | simp [-invQ_normal, resultOf, a0, a1, a2, hg, g1, g2, g3, hga, g4, hgb, g5, g6, aBin, aUn, pow2_ne, pow2_ne_i, eqCells, eqCell, int_beq, splice, alloc1_loc, box1_loc, bld, aFill] | simp (disch := omega) only [wrap_i64, wrap_u64, tmod_nn, tdiv_nn, idx_w, idx_i, app_w])) <;> (trace_state; sorry)
            · simp only [AVal.raw.injEq, Value.bool.injEq, decide_eq_false_iff_not, decide_eq_true_eq, Bool.not_eq_true, Bool.not_eq_false, Bool.not_eq_eq_eq_not, Bool.not_true, Bool.not_false, Bool.and_eq_true, Bool.or_eq_true, Bool.or_eq_false_iff] at g6
              (repeat (first | simp [-invQ_normal, a0, a1, a2, hg, g1, g2, g3, hga, g4, hgb, g5, g6, aBin, aUn, pow2_ne, pow2_ne_i, eqCells, eqCell, int_beq, splice, alloc1_loc, box1_loc, bld, aFill] | simp (disch := omega) only [wrap_i64, wrap_u64, tmod_nn, tdiv_nn, idx_w, idx_i, app_w]))
              refine aw_cond_v ?_
              (repeat (first | simp [-invQ_normal, a0, a1, a2, hg, g1, g2, g3, hga, g4, hgb, g5, g6, aBin, aUn, pow2_ne, pow2_ne_i, eqCells, eqCell, int_beq, splice, alloc1_loc, box1_loc, bld, aFill] | simp (disch := omega) only [wrap_i64, wrap_u64, tmod_nn, tdiv_nn, idx_w, idx_i, app_w]))
              refine condV_split ⟨_, rfl⟩ (fun c7 => ?_) (fun c7 => ?_)
              · simp only [AVal.raw.injEq, Value.bool.injEq, decide_eq_false_iff_not, decide_eq_true_eq, Bool.not_eq_true, Bool.not_eq_false, Bool.not_eq_eq_eq_not, Bool.not_true, Bool.not_false, Bool.and_eq_true, Bool.or_eq_true, Bool.or_eq_false_iff] at c7
                refine aw_seq (aw_region_q r4_3 ?_)
                (repeat (first | simp [-invQ_normal, l4_3, a0, a1, a2, hg, g1, g2, g3, hga, g4, hgb, g5, g6, c7, aBin, aUn, pow2_ne, pow2_ne_i, eqCells, eqCell, int_beq, splice, alloc1_loc, box1_loc, bld, aFill] | simp (disch := omega) only [wrap_i64, wrap_u64, tmod_nn, tdiv_nn, idx_w, idx_i, app_w]))
                refine aw_ret (retQ_vals (gs := gs) [.raw (.bool true)] (.inr rfl) ?_ (by simp [givenAs, AVal.fixed, rawCell]) (by (repeat (first | simp [-invQ_normal, a0, a1, a2, hg, g1, g2, g3, hga, g4, hgb, g5, g6, c7, aBin, aUn, pow2_ne, pow2_ne_i, eqCells, eqCell, int_beq, splice, alloc1_loc, box1_loc, bld, aFill] | simp (disch := omega) only [wrap_i64, wrap_u64, tmod_nn, tdiv_nn, idx_w, idx_i, app_w]))) (by rw [← hr0]; first | done | rfl))
                (repeat (first | simp [-invQ_normal, resultOf, a0, a1, a2, hg, g1, g2, g3, hga, g4, hgb, g5, g6, c7, aBin, aUn, pow2_ne, pow2_ne_i, eqCells, eqCell, int_beq, splice, alloc1_loc, box1_loc, bld, aFill] | simp (disch := omega) only [wrap_i64, wrap_u64, tmod_nn, tdiv_nn, idx_w, idx_i, app_w])) <;> (trace_state; sorry)
              · simp only [AVal.raw.injEq, Value.bool.injEq, decide_eq_false_iff_not, decide_eq_true_eq, Bool.not_eq_true, Bool.not_eq_false, Bool.not_eq_eq_eq_not, Bool.not_true, Bool.not_false, Bool.and_eq_true, Bool.or_eq_true, Bool.or_eq_false_iff] at c7
                refine aw_skip ?_
                try simp only [seqQ_normal, seqQ_exit, seqQ_ret, blockQ_normal, blockQ_ret, blockQ_exit, invQ_exit, invQ_ret, endQ_eq, if_true, reduceIte, Nat.reduceEqDiff, reduceCtorEq]
                refine aw_seq (aw_region_q r4_4 ?_)
                have gx := good_or hga hgb
                have gy := good_and hga hgb
                have gz := good_minus hga hgb
                have mx := in_or hga hgb n.toNat
                have my := in_and hga hgb n.toNat
                have mz := in_minus hga hgb n.toNat
                have hn0 : 0 ≤ n := (by omega)
                have hn1 : n < 1048576 := (by omega)
                (repeat (first | simp [-invQ_normal, l4_4, a0, a1, a2, hg, g1, g2, g3, hga, g4, hgb, g5, g6, c7, gx, gy, gz, mx, my, mz, hn0, hn1, aBin, aUn, pow2_ne, pow2_ne_i, eqCells, eqCell, int_beq, splice, alloc1_loc, box1_loc, bld, aFill] | simp (disch := omega) only [wrap_i64, wrap_u64, tmod_nn, tdiv_nn, idx_w, idx_i, app_w]))
                refine wpC_vals (ev_Or a b (by omega) (by omega) ha hb _ _) (by simp) (by simp [isRow]) (by simp) (by first | simp | assumption) (by simp [plainArg, plain1, AVal.shared, AVal.shared.sharedOne, rawCell]) ⟨by simp, ?_⟩
                (repeat (first | simp [-invQ_normal, a0, a1, a2, hg, g1, g2, g3, hga, g4, hgb, g5, g6, c7, gx, gy, gz, mx, my, mz, hn0, hn1, aBin, aUn, pow2_ne, pow2_ne_i, eqCells, eqCell, int_beq, splice, alloc1_loc, box1_loc, bld, aFill] | simp (disch := omega) only [wrap_i64, wrap_u64, tmod_nn, tdiv_nn, idx_w, idx_i, app_w]))
                refine aw_seq (aw_region_q r4_5 ?_)
                (repeat (first | simp [-invQ_normal, l4_5, a0, a1, a2, hg, g1, g2, g3, hga, g4, hgb, g5, g6, c7, gx, gy, gz, mx, my, mz, hn0, hn1, aBin, aUn, pow2_ne, pow2_ne_i, eqCells, eqCell, int_beq, splice, alloc1_loc, box1_loc, bld, aFill] | simp (disch := omega) only [wrap_i64, wrap_u64, tmod_nn, tdiv_nn, idx_w, idx_i, app_w]))
                refine wpC_vals (ev_And a b (by omega) (by omega) ha hb _ _) (by simp) (by simp [isRow]) (by simp) (by first | simp | assumption) (by simp [plainArg, plain1, AVal.shared, AVal.shared.sharedOne, rawCell]) ⟨by simp, ?_⟩
                (repeat (first | simp [-invQ_normal, a0, a1, a2, hg, g1, g2, g3, hga, g4, hgb, g5, g6, c7, gx, gy, gz, mx, my, mz, hn0, hn1, aBin, aUn, pow2_ne, pow2_ne_i, eqCells, eqCell, int_beq, splice, alloc1_loc, box1_loc, bld, aFill] | simp (disch := omega) only [wrap_i64, wrap_u64, tmod_nn, tdiv_nn, idx_w, idx_i, app_w]))
                refine aw_seq (aw_region_q r4_6 ?_)
                (repeat (first | simp [-invQ_normal, l4_6, a0, a1, a2, hg, g1, g2, g3, hga, g4, hgb, g5, g6, c7, gx, gy, gz, mx, my, mz, hn0, hn1, aBin, aUn, pow2_ne, pow2_ne_i, eqCells, eqCell, int_beq, splice, alloc1_loc, box1_loc, bld, aFill] | simp (disch := omega) only [wrap_i64, wrap_u64, tmod_nn, tdiv_nn, idx_w, idx_i, app_w]))
                refine wpC_vals (ev_Minus a b (by omega) (by omega) ha hb _ _) (by simp) (by simp [isRow]) (by simp) (by first | simp | assumption) (by simp [plainArg, plain1, AVal.shared, AVal.shared.sharedOne, rawCell]) ⟨by simp, ?_⟩
                (repeat (first | simp [-invQ_normal, a0, a1, a2, hg, g1, g2, g3, hga, g4, hgb, g5, g6, c7, gx, gy, gz, mx, my, mz, hn0, hn1, aBin, aUn, pow2_ne, pow2_ne_i, eqCells, eqCell, int_beq, splice, alloc1_loc, box1_loc, bld, aFill] | simp (disch := omega) only [wrap_i64, wrap_u64, tmod_nn, tdiv_nn, idx_w, idx_i, app_w]))
                refine aw_seq (aw_region_q r4_7 ?_)
                (repeat (first | simp [-invQ_normal, l4_7, a0, a1, a2, hg, g1, g2, g3, hga, g4, hgb, g5, g6, c7, gx, gy, gz, mx, my, mz, hn0, hn1, aBin, aUn, pow2_ne, pow2_ne_i, eqCells, eqCell, int_beq, splice, alloc1_loc, box1_loc, bld, aFill] | simp (disch := omega) only [wrap_i64, wrap_u64, tmod_nn, tdiv_nn, idx_w, idx_i, app_w]))
                refine wpC_vals (ev_Has a (by omega) ha n hn _ _) (by simp) (by simp [isRow]) (by simp) (by first | simp | assumption) (by simp [plainArg, plain1, AVal.shared, AVal.shared.sharedOne, rawCell]) ⟨by simp, ?_⟩
                (repeat (first | simp [-invQ_normal, a0, a1, a2, hg, g1, g2, g3, hga, g4, hgb, g5, g6, c7, gx, gy, gz, mx, my, mz, hn0, hn1, aBin, aUn, pow2_ne, pow2_ne_i, eqCells, eqCell, int_beq, splice, alloc1_loc, box1_loc, bld, aFill] | simp (disch := omega) only [wrap_i64, wrap_u64, tmod_nn, tdiv_nn, idx_w, idx_i, app_w]))
                refine aw_seq (aw_region_q r4_8 ?_)
                (repeat (first | simp [-invQ_normal, l4_8, a0, a1, a2, hg, g1, g2, g3, hga, g4, hgb, g5, g6, c7, gx, gy, gz, mx, my, mz, hn0, hn1, aBin, aUn, pow2_ne, pow2_ne_i, eqCells, eqCell, int_beq, splice, alloc1_loc, box1_loc, bld, aFill] | simp (disch := omega) only [wrap_i64, wrap_u64, tmod_nn, tdiv_nn, idx_w, idx_i, app_w]))
                refine wpC_vals (ev_Has b (by omega) hb n hn _ _) (by simp) (by simp [isRow]) (by simp) (by first | simp | assumption) (by simp [plainArg, plain1, AVal.shared, AVal.shared.sharedOne, rawCell]) ⟨by simp, ?_⟩
                (repeat (first | simp [-invQ_normal, a0, a1, a2, hg, g1, g2, g3, hga, g4, hgb, g5, g6, c7, gx, gy, gz, mx, my, mz, hn0, hn1, aBin, aUn, pow2_ne, pow2_ne_i, eqCells, eqCell, int_beq, splice, alloc1_loc, box1_loc, bld, aFill] | simp (disch := omega) only [wrap_i64, wrap_u64, tmod_nn, tdiv_nn, idx_w, idx_i, app_w]))
                refine aw_seq (aw_region_q r4_9 ?_)
                (repeat (first | simp [-invQ_normal, l4_9, a0, a1, a2, hg, g1, g2, g3, hga, g4, hgb, g5, g6, c7, gx, gy, gz, mx, my, mz, hn0, hn1, aBin, aUn, pow2_ne, pow2_ne_i, eqCells, eqCell, int_beq, splice, alloc1_loc, box1_loc, bld, aFill] | simp (disch := omega) only [wrap_i64, wrap_u64, tmod_nn, tdiv_nn, idx_w, idx_i, app_w]))
                refine wpC_vals (ev_Has (mergeW orF a b) (good_len (good_or hga hgb)) (merge_bits joins_Or a b ha hb) n hn _ _) (by simp) (by simp [isRow]) (by simp) (by first | simp | assumption) (by simp [plainArg, plain1, AVal.shared, AVal.shared.sharedOne, rawCell]) ⟨by simp, ?_⟩
                (repeat (first | simp [-invQ_normal, a0, a1, a2, hg, g1, g2, g3, hga, g4, hgb, g5, g6, c7, gx, gy, gz, mx, my, mz, hn0, hn1, aBin, aUn, pow2_ne, pow2_ne_i, eqCells, eqCell, int_beq, splice, alloc1_loc, box1_loc, bld, aFill] | simp (disch := omega) only [wrap_i64, wrap_u64, tmod_nn, tdiv_nn, idx_w, idx_i, app_w]))
                refine aw_seq (aw_region_q r4_10 ?_)
                (repeat (first | simp [-invQ_normal, l4_10, a0, a1, a2, hg, g1, g2, g3, hga, g4, hgb, g5, g6, c7, gx, gy, gz, mx, my, mz, hn0, hn1, aBin, aUn, pow2_ne, pow2_ne_i, eqCells, eqCell, int_beq, splice, alloc1_loc, box1_loc, bld, aFill] | simp (disch := omega) only [wrap_i64, wrap_u64, tmod_nn, tdiv_nn, idx_w, idx_i, app_w]))
                refine wpC_vals (ev_Has (mergeW andF a b) (good_len (good_and hga hgb)) (merge_bits joins_And a b ha hb) n hn _ _) (by simp) (by simp [isRow]) (by simp) (by first | simp | assumption) (by simp [plainArg, plain1, AVal.shared, AVal.shared.sharedOne, rawCell]) ⟨by simp, ?_⟩
                (repeat (first | simp [-invQ_normal, a0, a1, a2, hg, g1, g2, g3, hga, g4, hgb, g5, g6, c7, gx, gy, gz, mx, my, mz, hn0, hn1, aBin, aUn, pow2_ne, pow2_ne_i, eqCells, eqCell, int_beq, splice, alloc1_loc, box1_loc, bld, aFill] | simp (disch := omega) only [wrap_i64, wrap_u64, tmod_nn, tdiv_nn, idx_w, idx_i, app_w]))
                refine aw_seq (aw_region_q r4_11 ?_)
                (repeat (first | simp [-invQ_normal, l4_11, a0, a1, a2, hg, g1, g2, g3, hga, g4, hgb, g5, g6, c7, gx, gy, gz, mx, my, mz, hn0, hn1, aBin, aUn, pow2_ne, pow2_ne_i, eqCells, eqCell, int_beq, splice, alloc1_loc, box1_loc, bld, aFill] | simp (disch := omega) only [wrap_i64, wrap_u64, tmod_nn, tdiv_nn, idx_w, idx_i, app_w]))
                refine wpC_vals (ev_Has (mergeW notF a b) (good_len (good_minus hga hgb)) (merge_bits joins_Minus a b ha hb) n hn _ _) (by simp) (by simp [isRow]) (by simp) (by first | simp | assumption) (by simp [plainArg, plain1, AVal.shared, AVal.shared.sharedOne, rawCell]) ⟨by simp, ?_⟩
                (repeat (first | simp [-invQ_normal, a0, a1, a2, hg, g1, g2, g3, hga, g4, hgb, g5, g6, c7, gx, gy, gz, mx, my, mz, hn0, hn1, aBin, aUn, pow2_ne, pow2_ne_i, eqCells, eqCell, int_beq, splice, alloc1_loc, box1_loc, bld, aFill] | simp (disch := omega) only [wrap_i64, wrap_u64, tmod_nn, tdiv_nn, idx_w, idx_i, app_w]))
                refine aw_seq (aw_region_q r4_12 ?_)
                (repeat (first | simp [-invQ_normal, l4_12, a0, a1, a2, hg, g1, g2, g3, hga, g4, hgb, g5, g6, c7, gx, gy, gz, mx, my, mz, hn0, hn1, aBin, aUn, pow2_ne, pow2_ne_i, eqCells, eqCell, int_beq, splice, alloc1_loc, box1_loc, bld, aFill] | simp (disch := omega) only [wrap_i64, wrap_u64, tmod_nn, tdiv_nn, idx_w, idx_i, app_w]))
                refine wpG_split ⟨_, rfl⟩ (fun g8 => ?_) (fun g8 => ?_)
                · simp only [AVal.raw.injEq, Value.bool.injEq, decide_eq_false_iff_not, decide_eq_true_eq, Bool.not_eq_true, Bool.not_eq_false, Bool.not_eq_eq_eq_not, Bool.not_true, Bool.not_false, Bool.and_eq_true, Bool.or_eq_true, Bool.or_eq_false_iff] at g8
                  (repeat (first | simp [-invQ_normal, a0, a1, a2, hg, g1, g2, g3, hga, g4, hgb, g5, g6, c7, gx, gy, gz, mx, my, mz, hn0, hn1, g8, aBin, aUn, pow2_ne, pow2_ne_i, eqCells, eqCell, int_beq, splice, alloc1_loc, box1_loc, bld, aFill] | simp (disch := omega) only [wrap_i64, wrap_u64, tmod_nn, tdiv_nn, idx_w, idx_i, app_w]))
                  refine aw_ret (retQ_vals (gs := gs) [.raw (.bool true)] (.inr rfl) ?_ (by simp [givenAs, AVal.fixed, rawCell]) (by (repeat (first | simp [-invQ_normal, a0, a1, a2, hg, g1, g2, g3, hga, g4, hgb, g5, g6, c7, gx, gy, gz, mx, my, mz, hn0, hn1, g8, aBin, aUn, pow2_ne, pow2_ne_i, eqCells, eqCell, int_beq, splice, alloc1_loc, box1_loc, bld, aFill] | simp (disch := omega) only [wrap_i64, wrap_u64, tmod_nn, tdiv_nn, idx_w, idx_i, app_w]))) (by rw [← hr0]; first | done | rfl))
                  (repeat (first | simp [-invQ_normal, resultOf, a0, a1, a2, hg, g1, g2, g3, hga, g4, hgb, g5, g6, c7, gx, gy, gz, mx, my, mz, hn0, hn1, g8, aBin, aUn, pow2_ne, pow2_ne_i, eqCells, eqCell, int_beq, splice, alloc1_loc, box1_loc, bld, aFill] | simp (disch := omega) only [wrap_i64, wrap_u64, tmod_nn, tdiv_nn, idx_w, idx_i, app_w])) <;> (trace_state; sorry)
                · simp only [AVal.raw.injEq, Value.bool.injEq, decide_eq_false_iff_not, decide_eq_true_eq, Bool.not_eq_true, Bool.not_eq_false, Bool.not_eq_eq_eq_not, Bool.not_true, Bool.not_false, Bool.and_eq_true, Bool.or_eq_true, Bool.or_eq_false_iff] at g8
                  (repeat (first | simp [-invQ_normal, a0, a1, a2, hg, g1, g2, g3, hga, g4, hgb, g5, g6, c7, gx, gy, gz, mx, my, mz, hn0, hn1, g8, aBin, aUn, pow2_ne, pow2_ne_i, eqCells, eqCell, int_beq, splice, alloc1_loc, box1_loc, bld, aFill] | simp (disch := omega) only [wrap_i64, wrap_u64, tmod_nn, tdiv_nn, idx_w, idx_i, app_w]))
                  refine aw_ret (retQ_vals (gs := gs) [.raw (.bool true)] (.inr rfl) ?_ (by simp [givenAs, AVal.fixed, rawCell]) (by (repeat (first | simp [-invQ_normal, a0, a1, a2, hg, g1, g2, g3, hga, g4, hgb, g5, g6, c7, gx, gy, gz, mx, my, mz, hn0, hn1, g8, aBin, aUn, pow2_ne, pow2_ne_i, eqCells, eqCell, int_beq, splice, alloc1_loc, box1_loc, bld, aFill] | simp (disch := omega) only [wrap_i64, wrap_u64, tmod_nn, tdiv_nn, idx_w, idx_i, app_w]))) (by rw [← hr0]; first | done | rfl))
                  (repeat (first | simp [-invQ_normal, resultOf, a0, a1, a2, hg, g1, g2, g3, hga, g4, hgb, g5, g6, c7, gx, gy, gz, mx, my, mz, hn0, hn1, g8, aBin, aUn, pow2_ne, pow2_ne_i, eqCells, eqCell, int_beq, splice, alloc1_loc, box1_loc, bld, aFill] | simp (disch := omega) only [wrap_i64, wrap_u64, tmod_nn, tdiv_nn, idx_w, idx_i, app_w])) <;> (trace_state; sorry)

end Go.Proofs.YtjcgaelibiiiiaaDoor
