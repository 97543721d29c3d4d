/-
  WALKS over the abstract interpreter: bits.Has, Size, Same and the reference's. Printed by this seat's own program (genwalk.py) out of door2.py.
-/
import Derived.Test.YtjcgaelibiiiiaaDoorW1
import Derived.Test.YtjcgaelibiiiiaaDoorPop
set_option linter.unusedVariables false
set_option linter.unusedSimpArgs false
namespace Go.Proofs.YtjcgaelibiiiiaaDoor
open Go.Abs

set_option maxHeartbeats 800000 in
theorem ev_within (n : Int) (base : Nat) (gs : GS)  : Evals E 29 [.raw (.int .i64 n)] base gs ([.v (.raw (.bool (decide (0 ≤ n) && decide (n < 1048576))))], gs) := by
  refine evals_walk 9 #[.tmp 2] rfl (by kernel_rfl) b29_eq (by kernel_rfl) (by kernel_rfl) (by simp) fun s hs hm => ?_
  have a0 : s.get 0 = .raw (.int .i64 n) := by simpa using hs 0
  have hg : s.m.gs = gs := by rw [hm]
  clear hs
  generalize hr0 : (([.v (.raw (.bool (decide (0 ≤ n) && decide (n < 1048576))))], gs) : List RV × GS) = r0
  unfold b29
  refine aw_seq (aw_region_q r29_0 ?_)
  (repeat (first | simp [-invQ_normal, l29_0, a0, hg, wordC, aBin, aUn, pow2_ne, pow2_ne_i, eqCells, eqCell, int_beq, splice, alloc1_loc, box1_loc, bld, aFill] | simp (disch := omega) only [shr_u64, shl_u64, and1_u64, fdiv_nn, wrap_i64, wrap_u64, tmod_nn, tdiv_nn, idx_w]))
  refine aw_seq (aw_region_q r29_1 ?_)
  (repeat (first | simp [-invQ_normal, l29_1, a0, hg, wordC, aBin, aUn, pow2_ne, pow2_ne_i, eqCells, eqCell, int_beq, splice, alloc1_loc, box1_loc, bld, aFill] | simp (disch := omega) only [shr_u64, shl_u64, and1_u64, fdiv_nn, wrap_i64, wrap_u64, tmod_nn, tdiv_nn, idx_w]))
  refine wpG_split ⟨_, rfl⟩ (fun g1 => ?_) (fun g1 => ?_)
  · simp only [AVal.raw.injEq, Value.bool.injEq, decide_eq_false_iff_not, decide_eq_true_eq, Bool.not_eq_true, Bool.not_eq_false, Bool.not_eq_eq_eq_not, Bool.not_true, Bool.not_false, Bool.and_eq_true, Bool.or_eq_true, Bool.or_eq_false_iff] at g1
    (repeat (first | simp [-invQ_normal, a0, hg, g1, wordC, aBin, aUn, pow2_ne, pow2_ne_i, eqCells, eqCell, int_beq, splice, alloc1_loc, box1_loc, bld, aFill] | simp (disch := omega) only [shr_u64, shl_u64, and1_u64, fdiv_nn, wrap_i64, wrap_u64, tmod_nn, tdiv_nn, idx_w]))
    refine aw_ret (retQ_vals (gs := gs) [.raw (.bool (decide (0 ≤ n) && decide (n < 1048576)))] (.inr rfl) ?_ (by simp [givenAs, AVal.fixed, rawCell]) (by (repeat (first | simp [-invQ_normal, a0, hg, g1, wordC, aBin, aUn, pow2_ne, pow2_ne_i, eqCells, eqCell, int_beq, splice, alloc1_loc, box1_loc, bld, aFill] | simp (disch := omega) only [shr_u64, shl_u64, and1_u64, fdiv_nn, wrap_i64, wrap_u64, tmod_nn, tdiv_nn, idx_w]))) (by rw [← hr0]; first | done | rfl))
    (repeat (first | simp [-invQ_normal, resultOf, a0, hg, g1, wordC, aBin, aUn, pow2_ne, pow2_ne_i, eqCells, eqCell, int_beq, splice, alloc1_loc, box1_loc, bld, aFill] | simp (disch := omega) only [shr_u64, shl_u64, and1_u64, fdiv_nn, wrap_i64, wrap_u64, tmod_nn, tdiv_nn, idx_w])) <;> (simp_all)
  · simp only [AVal.raw.injEq, Value.bool.injEq, decide_eq_false_iff_not, decide_eq_true_eq, Bool.not_eq_true, Bool.not_eq_false, Bool.not_eq_eq_eq_not, Bool.not_true, Bool.not_false, Bool.and_eq_true, Bool.or_eq_true, Bool.or_eq_false_iff] at g1
    (repeat (first | simp [-invQ_normal, a0, hg, g1, wordC, aBin, aUn, pow2_ne, pow2_ne_i, eqCells, eqCell, int_beq, splice, alloc1_loc, box1_loc, bld, aFill] | simp (disch := omega) only [shr_u64, shl_u64, and1_u64, fdiv_nn, wrap_i64, wrap_u64, tmod_nn, tdiv_nn, idx_w]))
    refine aw_ret (retQ_vals (gs := gs) [.raw (.bool (decide (0 ≤ n) && decide (n < 1048576)))] (.inr rfl) ?_ (by simp [givenAs, AVal.fixed, rawCell]) (by (repeat (first | simp [-invQ_normal, a0, hg, g1, wordC, aBin, aUn, pow2_ne, pow2_ne_i, eqCells, eqCell, int_beq, splice, alloc1_loc, box1_loc, bld, aFill] | simp (disch := omega) only [shr_u64, shl_u64, and1_u64, fdiv_nn, wrap_i64, wrap_u64, tmod_nn, tdiv_nn, idx_w]))) (by rw [← hr0]; first | done | rfl))
    (repeat (first | simp [-invQ_normal, resultOf, a0, hg, g1, wordC, aBin, aUn, pow2_ne, pow2_ne_i, eqCells, eqCell, int_beq, splice, alloc1_loc, box1_loc, bld, aFill] | simp (disch := omega) only [shr_u64, shl_u64, and1_u64, fdiv_nn, wrap_i64, wrap_u64, tmod_nn, tdiv_nn, idx_w])) <;> (simp_all)
set_option maxHeartbeats 800000 in
theorem ev_cmp (p : Int × Int) (t : Int) (hp : 0 ≤ p.1 ∧ p.1 < 16384) (ht : 0 ≤ t ∧ t < 16384) (base : Nat) (gs : GS)  : Evals E 31 [.agg (wordC p), .raw (.int .i64 t)] base gs ([.v (.raw (.int .i64 (p.1 - t)))], gs) := by
  refine evals_walk 9 #[.tmp 4] rfl (by kernel_rfl) b31_eq (by kernel_rfl) (by kernel_rfl) (by simp) fun s hs hm => ?_
  have a0 : s.get 0 = .agg (wordC p) := by simpa using hs 0
  have a1 : s.get 1 = .raw (.int .i64 t) := by simpa using hs 1
  have hg : s.m.gs = gs := by rw [hm]
  clear hs
  generalize hr0 : (([.v (.raw (.int .i64 (p.1 - t)))], gs) : List RV × GS) = r0
  unfold b31
  refine aw_seq (aw_region_q r31_0 ?_)
  (repeat (first | simp [-invQ_normal, l31_0, a0, a1, hg, box1_loc, wordC, aBin, aUn, pow2_ne, pow2_ne_i, eqCells, eqCell, int_beq, splice, alloc1_loc, bld, aFill] | simp (disch := omega) only [shr_u64, shl_u64, and1_u64, fdiv_nn, wrap_i64, wrap_u64, tmod_nn, tdiv_nn, idx_w]))
  refine aw_seq (aw_region_q r31_1 ?_)
  (repeat (first | simp [-invQ_normal, l31_1, a0, a1, hg, box1_loc, wordC, aBin, aUn, pow2_ne, pow2_ne_i, eqCells, eqCell, int_beq, splice, alloc1_loc, bld, aFill] | simp (disch := omega) only [shr_u64, shl_u64, and1_u64, fdiv_nn, wrap_i64, wrap_u64, tmod_nn, tdiv_nn, idx_w]))
  refine aw_ret (retQ_vals (gs := gs) [.raw (.int .i64 (p.1 - t))] (.inr rfl) ?_ (by simp [givenAs, AVal.fixed, rawCell]) (by (repeat (first | simp [-invQ_normal, a0, a1, hg, box1_loc, wordC, aBin, aUn, pow2_ne, pow2_ne_i, eqCells, eqCell, int_beq, splice, alloc1_loc, bld, aFill] | simp (disch := omega) only [shr_u64, shl_u64, and1_u64, fdiv_nn, wrap_i64, wrap_u64, tmod_nn, tdiv_nn, idx_w]))) (by rw [← hr0]; first | done | rfl))
  (repeat (first | simp [-invQ_normal, resultOf, a0, a1, hg, box1_loc, wordC, aBin, aUn, pow2_ne, pow2_ne_i, eqCells, eqCell, int_beq, splice, alloc1_loc, bld, aFill] | simp (disch := omega) only [shr_u64, shl_u64, and1_u64, fdiv_nn, wrap_i64, wrap_u64, tmod_nn, tdiv_nn, idx_w])) <;> (trace_state; sorry)
set_option maxHeartbeats 800000 in
theorem ev_search (ws : List (Int × Int)) (hl : ws.length ≤ 16384) (hb : bits64 ws) (hr : rises ws) (ha : ∀ p ∈ ws, 0 ≤ p.1 ∧ p.1 < 16384) (t : Int) (ht : 0 ≤ t ∧ t < 16384) (base : Nat) (gs : GS)  : Evals E 30 [.sl (ws.map wordC), .raw (.int .i64 t), .clo 31 [] []] base gs ([.v (.raw (.int .i64 (lbI ws t))), .v (.raw (.bool (inAt ws t)))], gs) := by
  refine evals_walk 49 #[.tmp 6, .tmp 7] rfl (by kernel_rfl) b30_eq (by kernel_rfl) (by kernel_rfl) (by simp) fun s hs hm => ?_
  have a0 : s.get 0 = .sl (ws.map wordC) := by simpa using hs 0
  have a1 : s.get 1 = .raw (.int .i64 t) := by simpa using hs 1
  have a2 : s.get 2 = .clo 31 [] [] := by simpa using hs 2
  have hg : s.m.gs = gs := by rw [hm]
  clear hs
  generalize hr0 : (([.v (.raw (.int .i64 (lbI ws t))), .v (.raw (.bool (inAt ws t)))], gs) : List RV × GS) = r0
  unfold b30
  refine aw_seq (aw_region_q r30_0 ?_)
  (repeat (first | simp [-invQ_normal, l30_0, a0, a1, a2, hg, hl, aConvert, aShift, IntKind.bits, wordC, aBin, aUn, pow2_ne, pow2_ne_i, eqCells, eqCell, int_beq, splice, alloc1_loc, box1_loc, bld, aFill] | simp (disch := omega) only [fdiv_nn, shr_u64, shl_u64, and1_u64, fdiv_nn, wrap_i64, wrap_u64, tmod_nn, tdiv_nn, idx_w]))
  refine aw_seq (aw_region_q r30_1 ?_)
  (repeat (first | simp [-invQ_normal, l30_1, a0, a1, a2, hg, hl, aConvert, aShift, IntKind.bits, wordC, aBin, aUn, pow2_ne, pow2_ne_i, eqCells, eqCell, int_beq, splice, alloc1_loc, box1_loc, bld, aFill] | simp (disch := omega) only [fdiv_nn, shr_u64, shl_u64, and1_u64, fdiv_nn, wrap_i64, wrap_u64, tmod_nn, tdiv_nn, idx_w]))
  refine aw_seq (aw_region_q r30_2 ?_)
  (repeat (first | simp [-invQ_normal, l30_2, a0, a1, a2, hg, hl, aConvert, aShift, IntKind.bits, wordC, aBin, aUn, pow2_ne, pow2_ne_i, eqCells, eqCell, int_beq, splice, alloc1_loc, box1_loc, bld, aFill] | simp (disch := omega) only [fdiv_nn, shr_u64, shl_u64, and1_u64, fdiv_nn, wrap_i64, wrap_u64, tmod_nn, tdiv_nn, idx_w]))
  refine aw_seq ?_
  refine aw_block ?_
  obtain ⟨I3, hI3⟩ : ∃ I : Nat → St → Prop, I = fun k s => ∃ (i : Nat) (j : Nat), k = j - i ∧ s.get 0 = .sl (ws.map wordC) ∧ s.get 1 = .raw (.int .i64 t) ∧ s.get 2 = .clo 31 [] [] ∧ s.get 8 = .raw (.int .i64 ws.length) ∧ s.get 9 = .raw (.int .i64 i) ∧ s.get 10 = .raw (.int .i64 j) ∧ s.m.gs = gs ∧ (i ≤ j) ∧ (j ≤ ws.length) ∧ (∀ m (h : m < ws.length), m < i → ws[m].1 < t) ∧ (∀ m (h : m < ws.length), j ≤ m → t ≤ ws[m].1) := ⟨_, rfl⟩
  refine aw_inv2 I3 ?_ ?_
  · rw [hI3]
    refine ⟨_, 0, ws.length, rfl, ?_⟩
    (repeat (first | simp [-invQ_normal, a0, a1, a2, hg, hl, aConvert, aShift, IntKind.bits, wordC, aBin, aUn, pow2_ne, pow2_ne_i, eqCells, eqCell, int_beq, splice, alloc1_loc, box1_loc, bld, aFill] | simp (disch := omega) only [fdiv_nn, shr_u64, shl_u64, and1_u64, fdiv_nn, wrap_i64, wrap_u64, tmod_nn, tdiv_nn, idx_w])) <;> (exact fun m h h3 => absurd h3 (by omega))
  · intro k s hI0
    rw [hI3] at hI0
    obtain ⟨i, j, k4, i5_0, i6_1, i7_2, i8_8, i9_9, i10_10, hg, hij, hj, h1, h2⟩ := hI0
    unfold b30_L0
    refine aw_seq ?_
    refine aw_seq (aw_region_q r30_3 ?_)
    (repeat (first | simp [-invQ_normal, l30_3, hl, i5_0, i6_1, i7_2, i8_8, i9_9, i10_10, hg, aConvert, aShift, IntKind.bits, wordC, aBin, aUn, pow2_ne, pow2_ne_i, eqCells, eqCell, int_beq, splice, alloc1_loc, box1_loc, bld, aFill] | simp (disch := omega) only [fdiv_nn, shr_u64, shl_u64, and1_u64, fdiv_nn, wrap_i64, wrap_u64, tmod_nn, tdiv_nn, idx_w]))
    refine aw_cond_v ?_
    (repeat (first | simp [-invQ_normal, hl, i5_0, i6_1, i7_2, i8_8, i9_9, i10_10, hg, aConvert, aShift, IntKind.bits, wordC, aBin, aUn, pow2_ne, pow2_ne_i, eqCells, eqCell, int_beq, splice, alloc1_loc, box1_loc, bld, aFill] | simp (disch := omega) only [fdiv_nn, shr_u64, shl_u64, and1_u64, fdiv_nn, wrap_i64, wrap_u64, tmod_nn, tdiv_nn, idx_w]))
    refine condV_split ⟨_, rfl⟩ (fun c15 => ?_) (fun c15 => ?_)
    · simp only [AVal.raw.injEq, Value.bool.injEq, decide_eq_false_iff_not, decide_eq_true_eq, Bool.not_eq_true, Bool.not_eq_false, Bool.not_eq_eq_eq_not, Bool.not_true, Bool.not_false, Bool.and_eq_true, Bool.or_eq_true, Bool.or_eq_false_iff] at c15
      refine aw_skip ?_
      try simp only [seqQ_normal, seqQ_exit, seqQ_ret, blockQ_normal, blockQ_ret, blockQ_exit, invQ_exit, invQ_ret, endQ_eq, if_true, reduceIte, Nat.reduceEqDiff, reduceCtorEq]
      refine aw_block ?_
      refine aw_seq (aw_region_q r30_4 ?_)
      (repeat (first | simp [-invQ_normal, l30_4, hl, i5_0, i6_1, i7_2, i8_8, i9_9, i10_10, hg, c15, aConvert, aShift, IntKind.bits, wordC, aBin, aUn, pow2_ne, pow2_ne_i, eqCells, eqCell, int_beq, splice, alloc1_loc, box1_loc, bld, aFill] | simp (disch := omega) only [fdiv_nn, shr_u64, shl_u64, and1_u64, fdiv_nn, wrap_i64, wrap_u64, tmod_nn, tdiv_nn, idx_w]))
      refine aw_seq (aw_region_q r30_5 ?_)
      (repeat (first | simp [-invQ_normal, l30_5, hl, i5_0, i6_1, i7_2, i8_8, i9_9, i10_10, hg, c15, aConvert, aShift, IntKind.bits, wordC, aBin, aUn, pow2_ne, pow2_ne_i, eqCells, eqCell, int_beq, splice, alloc1_loc, box1_loc, bld, aFill] | simp (disch := omega) only [fdiv_nn, shr_u64, shl_u64, and1_u64, fdiv_nn, wrap_i64, wrap_u64, tmod_nn, tdiv_nn, idx_w]))
      refine wpC_vals (ev_cmp _ t (ha _ (List.getElem_mem (by omega))) ht _ _) (by simp) (by simp [isRow]) (by simp) (by first | simp | assumption) (by simp [plainArg, plain1, AVal.shared, AVal.shared.sharedOne, rawCell]) ⟨by simp, ?_⟩
      (repeat (first | simp [-invQ_normal, hl, i5_0, i6_1, i7_2, i8_8, i9_9, i10_10, hg, c15, aConvert, aShift, IntKind.bits, wordC, aBin, aUn, pow2_ne, pow2_ne_i, eqCells, eqCell, int_beq, splice, alloc1_loc, box1_loc, bld, aFill] | simp (disch := omega) only [fdiv_nn, shr_u64, shl_u64, and1_u64, fdiv_nn, wrap_i64, wrap_u64, tmod_nn, tdiv_nn, idx_w]))
      refine aw_cond_v ?_
      (repeat (first | simp [-invQ_normal, hl, i5_0, i6_1, i7_2, i8_8, i9_9, i10_10, hg, c15, aConvert, aShift, IntKind.bits, wordC, aBin, aUn, pow2_ne, pow2_ne_i, eqCells, eqCell, int_beq, splice, alloc1_loc, box1_loc, bld, aFill] | simp (disch := omega) only [fdiv_nn, shr_u64, shl_u64, and1_u64, fdiv_nn, wrap_i64, wrap_u64, tmod_nn, tdiv_nn, idx_w]))
      refine condV_split ⟨_, rfl⟩ (fun c16 => ?_) (fun c16 => ?_)
      · simp only [AVal.raw.injEq, Value.bool.injEq, decide_eq_false_iff_not, decide_eq_true_eq, Bool.not_eq_true, Bool.not_eq_false, Bool.not_eq_eq_eq_not, Bool.not_true, Bool.not_false, Bool.and_eq_true, Bool.or_eq_true, Bool.or_eq_false_iff] at c16
        refine aw_region_q r30_6 ?_
        (repeat (first | simp [-invQ_normal, l30_6, hl, i5_0, i6_1, i7_2, i8_8, i9_9, i10_10, hg, c15, c16, aConvert, aShift, IntKind.bits, wordC, aBin, aUn, pow2_ne, pow2_ne_i, eqCells, eqCell, int_beq, splice, alloc1_loc, box1_loc, bld, aFill] | simp (disch := omega) only [fdiv_nn, shr_u64, shl_u64, and1_u64, fdiv_nn, wrap_i64, wrap_u64, tmod_nn, tdiv_nn, idx_w]))
        -- cont 0: t17=T t31=T
        simp only [invQ_normal]
        rw [hI3]
        refine ⟨_, ?_, (i + j) / 2 + 1, j, rfl, ?_⟩
        · omega
        · (repeat (first | simp [-invQ_normal, hl, i5_0, i6_1, i7_2, i8_8, i9_9, i10_10, hg, c15, c16, aConvert, aShift, IntKind.bits, wordC, aBin, aUn, pow2_ne, pow2_ne_i, eqCells, eqCell, int_beq, splice, alloc1_loc, box1_loc, bld, aFill] | simp (disch := omega) only [fdiv_nn, shr_u64, shl_u64, and1_u64, fdiv_nn, wrap_i64, wrap_u64, tmod_nn, tdiv_nn, idx_w])) <;> (have e : ((↑i + ↑j : Int) / 2).toNat = (i + j) / 2 := (by omega); simp only [e] at *; exact ⟨by omega, by omega, fun m h hm => Int.lt_of_le_of_lt (rises_le hr (by omega) (show m ≤ (i + j) / 2 by omega)) (by omega), h2⟩)
      · simp only [AVal.raw.injEq, Value.bool.injEq, decide_eq_false_iff_not, decide_eq_true_eq, Bool.not_eq_true, Bool.not_eq_false, Bool.not_eq_eq_eq_not, Bool.not_true, Bool.not_false, Bool.and_eq_true, Bool.or_eq_true, Bool.or_eq_false_iff] at c16
        refine aw_region_q r30_7 ?_
        (repeat (first | simp [-invQ_normal, l30_7, hl, i5_0, i6_1, i7_2, i8_8, i9_9, i10_10, hg, c15, c16, aConvert, aShift, IntKind.bits, wordC, aBin, aUn, pow2_ne, pow2_ne_i, eqCells, eqCell, int_beq, splice, alloc1_loc, box1_loc, bld, aFill] | simp (disch := omega) only [fdiv_nn, shr_u64, shl_u64, and1_u64, fdiv_nn, wrap_i64, wrap_u64, tmod_nn, tdiv_nn, idx_w]))
        -- cont 1: t17=T t31=F
        simp only [invQ_normal]
        rw [hI3]
        refine ⟨_, ?_, i, (i + j) / 2, rfl, ?_⟩
        · omega
        · (repeat (first | simp [-invQ_normal, hl, i5_0, i6_1, i7_2, i8_8, i9_9, i10_10, hg, c15, c16, aConvert, aShift, IntKind.bits, wordC, aBin, aUn, pow2_ne, pow2_ne_i, eqCells, eqCell, int_beq, splice, alloc1_loc, box1_loc, bld, aFill] | simp (disch := omega) only [fdiv_nn, shr_u64, shl_u64, and1_u64, fdiv_nn, wrap_i64, wrap_u64, tmod_nn, tdiv_nn, idx_w])) <;> (have e : ((↑i + ↑j : Int) / 2).toNat = (i + j) / 2 := (by omega); simp only [e] at *; exact ⟨by omega, by omega, h1, fun m h hm => Int.le_trans (by omega) (rises_le hr h hm)⟩)
    · simp only [AVal.raw.injEq, Value.bool.injEq, decide_eq_false_iff_not, decide_eq_true_eq, Bool.not_eq_true, Bool.not_eq_false, Bool.not_eq_eq_eq_not, Bool.not_true, Bool.not_false, Bool.and_eq_true, Bool.or_eq_true, Bool.or_eq_false_iff] at c15
      refine aw_exit ?_
      try simp only [seqQ_normal, seqQ_exit, seqQ_ret, blockQ_normal, blockQ_ret, blockQ_exit, invQ_exit, invQ_ret, endQ_eq, if_true, reduceIte, Nat.reduceEqDiff, reduceCtorEq]
      refine aw_seq (aw_region_q r30_8 ?_)
      (repeat (first | simp [-invQ_normal, l30_8, hl, i5_0, i6_1, i7_2, i8_8, i9_9, i10_10, hg, c15, aConvert, aShift, IntKind.bits, wordC, aBin, aUn, pow2_ne, pow2_ne_i, eqCells, eqCell, int_beq, splice, alloc1_loc, box1_loc, bld, aFill] | simp (disch := omega) only [fdiv_nn, shr_u64, shl_u64, and1_u64, fdiv_nn, wrap_i64, wrap_u64, tmod_nn, tdiv_nn, idx_w]))
      refine wpG_split ⟨_, rfl⟩ (fun g17 => ?_) (fun g17 => ?_)
      · simp only [AVal.raw.injEq, Value.bool.injEq, decide_eq_false_iff_not, decide_eq_true_eq, Bool.not_eq_true, Bool.not_eq_false, Bool.not_eq_eq_eq_not, Bool.not_true, Bool.not_false, Bool.and_eq_true, Bool.or_eq_true, Bool.or_eq_false_iff] at g17
        (repeat (first | simp [-invQ_normal, hl, i5_0, i6_1, i7_2, i8_8, i9_9, i10_10, hg, c15, g17, aConvert, aShift, IntKind.bits, wordC, aBin, aUn, pow2_ne, pow2_ne_i, eqCells, eqCell, int_beq, splice, alloc1_loc, box1_loc, bld, aFill] | simp (disch := omega) only [fdiv_nn, shr_u64, shl_u64, and1_u64, fdiv_nn, wrap_i64, wrap_u64, tmod_nn, tdiv_nn, idx_w]))
        refine wpC_vals (ev_cmp _ t (ha _ (List.getElem_mem (by omega))) ht _ _) (by simp) (by simp [isRow]) (by simp) (by first | simp | assumption) (by simp [plainArg, plain1, AVal.shared, AVal.shared.sharedOne, rawCell]) ⟨by simp, ?_⟩
        (repeat (first | simp [-invQ_normal, hl, i5_0, i6_1, i7_2, i8_8, i9_9, i10_10, hg, c15, g17, aConvert, aShift, IntKind.bits, wordC, aBin, aUn, pow2_ne, pow2_ne_i, eqCells, eqCell, int_beq, splice, alloc1_loc, box1_loc, bld, aFill] | simp (disch := omega) only [fdiv_nn, shr_u64, shl_u64, and1_u64, fdiv_nn, wrap_i64, wrap_u64, tmod_nn, tdiv_nn, idx_w]))
        refine aw_ret (retQ_vals (gs := gs) [.raw (.int .i64 (lbI ws t)), .raw (.bool (inAt ws t))] (.inr rfl) ?_ (by simp [givenAs, AVal.fixed, rawCell]) (by (repeat (first | simp [-invQ_normal, hl, i5_0, i6_1, i7_2, i8_8, i9_9, i10_10, hg, c15, g17, aConvert, aShift, IntKind.bits, wordC, aBin, aUn, pow2_ne, pow2_ne_i, eqCells, eqCell, int_beq, splice, alloc1_loc, box1_loc, bld, aFill] | simp (disch := omega) only [fdiv_nn, shr_u64, shl_u64, and1_u64, fdiv_nn, wrap_i64, wrap_u64, tmod_nn, tdiv_nn, idx_w]))) (by rw [← hr0]; first | done | rfl))
        (repeat (first | simp [-invQ_normal, resultOf, hl, i5_0, i6_1, i7_2, i8_8, i9_9, i10_10, hg, c15, g17, aConvert, aShift, IntKind.bits, wordC, aBin, aUn, pow2_ne, pow2_ne_i, eqCells, eqCell, int_beq, splice, alloc1_loc, box1_loc, bld, aFill] | simp (disch := omega) only [fdiv_nn, shr_u64, shl_u64, and1_u64, fdiv_nn, wrap_i64, wrap_u64, tmod_nn, tdiv_nn, idx_w])) <;> (have e := search_end hij hj (by assumption) h1 h2; exact ⟨by omega, inAt_lt e (by assumption)⟩)
      · simp only [AVal.raw.injEq, Value.bool.injEq, decide_eq_false_iff_not, decide_eq_true_eq, Bool.not_eq_true, Bool.not_eq_false, Bool.not_eq_eq_eq_not, Bool.not_true, Bool.not_false, Bool.and_eq_true, Bool.or_eq_true, Bool.or_eq_false_iff] at g17
        (repeat (first | simp [-invQ_normal, hl, i5_0, i6_1, i7_2, i8_8, i9_9, i10_10, hg, c15, g17, aConvert, aShift, IntKind.bits, wordC, aBin, aUn, pow2_ne, pow2_ne_i, eqCells, eqCell, int_beq, splice, alloc1_loc, box1_loc, bld, aFill] | simp (disch := omega) only [fdiv_nn, shr_u64, shl_u64, and1_u64, fdiv_nn, wrap_i64, wrap_u64, tmod_nn, tdiv_nn, idx_w]))
        refine aw_ret (retQ_vals (gs := gs) [.raw (.int .i64 (lbI ws t)), .raw (.bool (inAt ws t))] (.inr rfl) ?_ (by simp [givenAs, AVal.fixed, rawCell]) (by (repeat (first | simp [-invQ_normal, hl, i5_0, i6_1, i7_2, i8_8, i9_9, i10_10, hg, c15, g17, aConvert, aShift, IntKind.bits, wordC, aBin, aUn, pow2_ne, pow2_ne_i, eqCells, eqCell, int_beq, splice, alloc1_loc, box1_loc, bld, aFill] | simp (disch := omega) only [fdiv_nn, shr_u64, shl_u64, and1_u64, fdiv_nn, wrap_i64, wrap_u64, tmod_nn, tdiv_nn, idx_w]))) (by rw [← hr0]; first | done | rfl))
        (repeat (first | simp [-invQ_normal, resultOf, hl, i5_0, i6_1, i7_2, i8_8, i9_9, i10_10, hg, c15, g17, aConvert, aShift, IntKind.bits, wordC, aBin, aUn, pow2_ne, pow2_ne_i, eqCells, eqCell, int_beq, splice, alloc1_loc, box1_loc, bld, aFill] | simp (disch := omega) only [fdiv_nn, shr_u64, shl_u64, and1_u64, fdiv_nn, wrap_i64, wrap_u64, tmod_nn, tdiv_nn, idx_w])) <;> (have e := search_end hij hj (by assumption) h1 h2; exact ⟨by omega, inAt_ge e (by assumption)⟩)
set_option maxHeartbeats 800000 in
theorem ev_Has (ws : List (Int × Int)) (hl : ws.length ≤ 16384) (hb : bits64 ws) (n : Int) (hn : -9223372036854775808 ≤ n ∧ n < 9223372036854775808) (base : Nat) (gs : GS)  : Evals E 10 [.sl (ws.map wordC), .raw (.int .i64 n)] base gs ([.v (.raw (.bool (goodI (-1) ws && (decide (0 ≤ n) && decide (n < 1048576)) && inI ws n.toNat))), .v (.raw (.int .i64 (if goodI (-1) ws then (if 0 ≤ n ∧ n < 1048576 then 0 else 2) else 8)))], gs) := by
  refine evals_walk 37 #[.tmp 4, .tmp 5] rfl (by kernel_rfl) b10_eq (by kernel_rfl) (by kernel_rfl) (by simp) fun s hs hm => ?_
  have a0 : s.get 0 = .sl (ws.map wordC) := by simpa using hs 0
  have a1 : s.get 1 = .raw (.int .i64 n) := by simpa using hs 1
  have hg : s.m.gs = gs := by rw [hm]
  clear hs
  generalize hr0 : (([.v (.raw (.bool (goodI (-1) ws && (decide (0 ≤ n) && decide (n < 1048576)) && inI ws n.toNat))), .v (.raw (.int .i64 (if goodI (-1) ws then (if 0 ≤ n ∧ n < 1048576 then 0 else 2) else 8)))], gs) : List RV × GS) = r0
  unfold b10
  refine aw_seq (aw_region_q r10_0 ?_)
  (repeat (first | simp [-invQ_normal, l10_0, a0, a1, hg, hl, wordC, aBin, aUn, pow2_ne, pow2_ne_i, eqCells, eqCell, int_beq, splice, alloc1_loc, box1_loc, bld, aFill] | simp (disch := omega) only [shr_u64, shl_u64, and1_u64, fdiv_nn, wrap_i64, wrap_u64, tmod_nn, tdiv_nn, idx_w]))
  refine aw_seq ?_
  refine aw_seq (aw_region_q r10_1 ?_)
  (repeat (first | simp [-invQ_normal, l10_1, a0, a1, hg, hl, wordC, aBin, aUn, pow2_ne, pow2_ne_i, eqCells, eqCell, int_beq, splice, alloc1_loc, box1_loc, bld, aFill] | simp (disch := omega) only [shr_u64, shl_u64, and1_u64, fdiv_nn, wrap_i64, wrap_u64, tmod_nn, tdiv_nn, idx_w]))
  refine wpC_vals (ev15 (x := extL) rfl ws (by omega) _ _) (by simp) (by simp [isRow]) (by simp) (by first | simp | assumption) (by simp [plainArg, plain1, AVal.shared, AVal.shared.sharedOne, rawCell]) ⟨by simp, ?_⟩
  (repeat (first | simp [-invQ_normal, a0, a1, hg, hl, wordC, aBin, aUn, pow2_ne, pow2_ne_i, eqCells, eqCell, int_beq, splice, alloc1_loc, box1_loc, bld, aFill] | simp (disch := omega) only [shr_u64, shl_u64, and1_u64, fdiv_nn, wrap_i64, wrap_u64, tmod_nn, tdiv_nn, idx_w]))
  refine aw_seq (aw_region_q r10_2 ?_)
  (repeat (first | simp [-invQ_normal, l10_2, a0, a1, hg, hl, wordC, aBin, aUn, pow2_ne, pow2_ne_i, eqCells, eqCell, int_beq, splice, alloc1_loc, box1_loc, bld, aFill] | simp (disch := omega) only [shr_u64, shl_u64, and1_u64, fdiv_nn, wrap_i64, wrap_u64, tmod_nn, tdiv_nn, idx_w]))
  refine aw_cond_v ?_
  (repeat (first | simp [-invQ_normal, a0, a1, hg, hl, wordC, aBin, aUn, pow2_ne, pow2_ne_i, eqCells, eqCell, int_beq, splice, alloc1_loc, box1_loc, bld, aFill] | simp (disch := omega) only [shr_u64, shl_u64, and1_u64, fdiv_nn, wrap_i64, wrap_u64, tmod_nn, tdiv_nn, idx_w]))
  refine condV_split ⟨_, rfl⟩ (fun c2 => ?_) (fun c2 => ?_)
  · simp only [AVal.raw.injEq, Value.bool.injEq, decide_eq_false_iff_not, decide_eq_true_eq, Bool.not_eq_true, Bool.not_eq_false, Bool.not_eq_eq_eq_not, Bool.not_true, Bool.not_false, Bool.and_eq_true, Bool.or_eq_true, Bool.or_eq_false_iff] at c2
    refine aw_seq (aw_region_q r10_3 ?_)
    (repeat (first | simp [-invQ_normal, l10_3, a0, a1, hg, hl, c2, wordC, aBin, aUn, pow2_ne, pow2_ne_i, eqCells, eqCell, int_beq, splice, alloc1_loc, box1_loc, bld, aFill] | simp (disch := omega) only [shr_u64, shl_u64, and1_u64, fdiv_nn, wrap_i64, wrap_u64, tmod_nn, tdiv_nn, idx_w]))
    refine aw_ret (retQ_vals (gs := gs) [.raw (.bool (goodI (-1) ws && (decide (0 ≤ n) && decide (n < 1048576)) && inI ws n.toNat)), .raw (.int .i64 (if goodI (-1) ws then (if 0 ≤ n ∧ n < 1048576 then 0 else 2) else 8))] (.inr rfl) ?_ (by simp [givenAs, AVal.fixed, rawCell]) (by (repeat (first | simp [-invQ_normal, a0, a1, hg, hl, c2, wordC, aBin, aUn, pow2_ne, pow2_ne_i, eqCells, eqCell, int_beq, splice, alloc1_loc, box1_loc, bld, aFill] | simp (disch := omega) only [shr_u64, shl_u64, and1_u64, fdiv_nn, wrap_i64, wrap_u64, tmod_nn, tdiv_nn, idx_w]))) (by rw [← hr0]; first | done | rfl))
    (repeat (first | simp [-invQ_normal, resultOf, a0, a1, hg, hl, c2, wordC, aBin, aUn, pow2_ne, pow2_ne_i, eqCells, eqCell, int_beq, splice, alloc1_loc, box1_loc, bld, aFill] | simp (disch := omega) only [shr_u64, shl_u64, and1_u64, fdiv_nn, wrap_i64, wrap_u64, tmod_nn, tdiv_nn, idx_w]))
  · simp only [AVal.raw.injEq, Value.bool.injEq, decide_eq_false_iff_not, decide_eq_true_eq, Bool.not_eq_true, Bool.not_eq_false, Bool.not_eq_eq_eq_not, Bool.not_true, Bool.not_false, Bool.and_eq_true, Bool.or_eq_true, Bool.or_eq_false_iff] at c2
    refine aw_skip ?_
    try simp only [seqQ_normal, seqQ_exit, seqQ_ret, blockQ_normal, blockQ_ret, blockQ_exit, invQ_exit, invQ_ret, endQ_eq, if_true, reduceIte, Nat.reduceEqDiff, reduceCtorEq]
    refine aw_seq ?_
    refine aw_seq (aw_region_q r10_4 ?_)
    (repeat (first | simp [-invQ_normal, l10_4, a0, a1, hg, hl, c2, wordC, aBin, aUn, pow2_ne, pow2_ne_i, eqCells, eqCell, int_beq, splice, alloc1_loc, box1_loc, bld, aFill] | simp (disch := omega) only [shr_u64, shl_u64, and1_u64, fdiv_nn, wrap_i64, wrap_u64, tmod_nn, tdiv_nn, idx_w]))
    refine wpC_vals (ev_within _ _ _) (by simp) (by simp [isRow]) (by simp) (by first | simp | assumption) (by simp [plainArg, plain1, AVal.shared, AVal.shared.sharedOne, rawCell]) ⟨by simp, ?_⟩
    (repeat (first | simp [-invQ_normal, a0, a1, hg, hl, c2, wordC, aBin, aUn, pow2_ne, pow2_ne_i, eqCells, eqCell, int_beq, splice, alloc1_loc, box1_loc, bld, aFill] | simp (disch := omega) only [shr_u64, shl_u64, and1_u64, fdiv_nn, wrap_i64, wrap_u64, tmod_nn, tdiv_nn, idx_w]))
    refine aw_cond_v ?_
    (repeat (first | simp [-invQ_normal, a0, a1, hg, hl, c2, wordC, aBin, aUn, pow2_ne, pow2_ne_i, eqCells, eqCell, int_beq, splice, alloc1_loc, box1_loc, bld, aFill] | simp (disch := omega) only [shr_u64, shl_u64, and1_u64, fdiv_nn, wrap_i64, wrap_u64, tmod_nn, tdiv_nn, idx_w]))
    refine condV_split ⟨_, rfl⟩ (fun c3 => ?_) (fun c3 => ?_)
    · simp only [AVal.raw.injEq, Value.bool.injEq, decide_eq_false_iff_not, decide_eq_true_eq, Bool.not_eq_true, Bool.not_eq_false, Bool.not_eq_eq_eq_not, Bool.not_true, Bool.not_false, Bool.and_eq_true, Bool.or_eq_true, Bool.or_eq_false_iff] at c3
      refine aw_seq (aw_region_q r10_5 ?_)
      (repeat (first | simp [-invQ_normal, l10_5, a0, a1, hg, hl, c2, c3, wordC, aBin, aUn, pow2_ne, pow2_ne_i, eqCells, eqCell, int_beq, splice, alloc1_loc, box1_loc, bld, aFill] | simp (disch := omega) only [shr_u64, shl_u64, and1_u64, fdiv_nn, wrap_i64, wrap_u64, tmod_nn, tdiv_nn, idx_w]))
      refine aw_ret (retQ_vals (gs := gs) [.raw (.bool (goodI (-1) ws && (decide (0 ≤ n) && decide (n < 1048576)) && inI ws n.toNat)), .raw (.int .i64 (if goodI (-1) ws then (if 0 ≤ n ∧ n < 1048576 then 0 else 2) else 8))] (.inr rfl) ?_ (by simp [givenAs, AVal.fixed, rawCell]) (by (repeat (first | simp [-invQ_normal, a0, a1, hg, hl, c2, c3, wordC, aBin, aUn, pow2_ne, pow2_ne_i, eqCells, eqCell, int_beq, splice, alloc1_loc, box1_loc, bld, aFill] | simp (disch := omega) only [shr_u64, shl_u64, and1_u64, fdiv_nn, wrap_i64, wrap_u64, tmod_nn, tdiv_nn, idx_w]))) (by rw [← hr0]; first | done | rfl))
      (repeat (first | simp [-invQ_normal, resultOf, a0, a1, hg, hl, c2, c3, wordC, aBin, aUn, pow2_ne, pow2_ne_i, eqCells, eqCell, int_beq, splice, alloc1_loc, box1_loc, bld, aFill] | simp (disch := omega) only [shr_u64, shl_u64, and1_u64, fdiv_nn, wrap_i64, wrap_u64, tmod_nn, tdiv_nn, idx_w])) <;> (exact ⟨fun h1 h2 => by omega, fun h => by omega⟩)
    · simp only [AVal.raw.injEq, Value.bool.injEq, decide_eq_false_iff_not, decide_eq_true_eq, Bool.not_eq_true, Bool.not_eq_false, Bool.not_eq_eq_eq_not, Bool.not_true, Bool.not_false, Bool.and_eq_true, Bool.or_eq_true, Bool.or_eq_false_iff] at c3
      refine aw_skip ?_
      try simp only [seqQ_normal, seqQ_exit, seqQ_ret, blockQ_normal, blockQ_ret, blockQ_exit, invQ_exit, invQ_ret, endQ_eq, if_true, reduceIte, Nat.reduceEqDiff, reduceCtorEq]
      refine aw_seq (aw_region_q r10_6 ?_)
      obtain ⟨m, hmn⟩ : ∃ m : Nat, n = m := ⟨n.toNat, by omega⟩
      have hrs := good_rises (by assumption)
      have hat : ∀ p ∈ ws, 0 ≤ p.1 ∧ p.1 < 16384 := good_mem (by assumption)
      (repeat (first | simp [-invQ_normal, l10_6, a0, a1, hg, hl, c2, c3, hmn, wordC, aBin, aUn, pow2_ne, pow2_ne_i, eqCells, eqCell, int_beq, splice, alloc1_loc, box1_loc, bld, aFill] | simp (disch := omega) only [shr_u64, shl_u64, and1_u64, fdiv_nn, wrap_i64, wrap_u64, tmod_nn, tdiv_nn, idx_w]))
      refine wpC_vals (ev_search ws hl hb hrs hat ((m : Int) / 64) (by omega) _ _) (by simp) (by simp [isRow]) (by simp) (by first | simp | assumption) (by simp [plainArg, plain1, AVal.shared, AVal.shared.sharedOne, rawCell]) ⟨by simp, ?_⟩
      (repeat (first | simp [-invQ_normal, a0, a1, hg, hl, c2, c3, hmn, wordC, aBin, aUn, pow2_ne, pow2_ne_i, eqCells, eqCell, int_beq, splice, alloc1_loc, box1_loc, bld, aFill] | simp (disch := omega) only [shr_u64, shl_u64, and1_u64, fdiv_nn, wrap_i64, wrap_u64, tmod_nn, tdiv_nn, idx_w]))
      refine aw_seq (aw_region_q r10_7 ?_)
      (repeat (first | simp [-invQ_normal, l10_7, a0, a1, hg, hl, c2, c3, hmn, wordC, aBin, aUn, pow2_ne, pow2_ne_i, eqCells, eqCell, int_beq, splice, alloc1_loc, box1_loc, bld, aFill] | simp (disch := omega) only [shr_u64, shl_u64, and1_u64, fdiv_nn, wrap_i64, wrap_u64, tmod_nn, tdiv_nn, idx_w]))
      refine wpG_split ⟨_, rfl⟩ (fun g5 => ?_) (fun g5 => ?_)
      · simp only [AVal.raw.injEq, Value.bool.injEq, decide_eq_false_iff_not, decide_eq_true_eq, Bool.not_eq_true, Bool.not_eq_false, Bool.not_eq_eq_eq_not, Bool.not_true, Bool.not_false, Bool.and_eq_true, Bool.or_eq_true, Bool.or_eq_false_iff] at g5
        obtain ⟨hi, he⟩ := has_in hrs hb g5
        (repeat (first | simp [-invQ_normal, a0, a1, hg, hl, c2, c3, hmn, g5, wordC, aBin, aUn, pow2_ne, pow2_ne_i, eqCells, eqCell, int_beq, splice, alloc1_loc, box1_loc, bld, aFill] | simp (disch := omega) only [shr_u64, shl_u64, and1_u64, fdiv_nn, wrap_i64, wrap_u64, tmod_nn, tdiv_nn, idx_w]))
        refine aw_ret (retQ_vals (gs := gs) [.raw (.bool (goodI (-1) ws && (decide (0 ≤ n) && decide (n < 1048576)) && inI ws n.toNat)), .raw (.int .i64 (if goodI (-1) ws then (if 0 ≤ n ∧ n < 1048576 then 0 else 2) else 8))] (.inr rfl) ?_ (by simp [givenAs, AVal.fixed, rawCell]) (by (repeat (first | simp [-invQ_normal, a0, a1, hg, hl, c2, c3, hmn, g5, wordC, aBin, aUn, pow2_ne, pow2_ne_i, eqCells, eqCell, int_beq, splice, alloc1_loc, box1_loc, bld, aFill] | simp (disch := omega) only [shr_u64, shl_u64, and1_u64, fdiv_nn, wrap_i64, wrap_u64, tmod_nn, tdiv_nn, idx_w]))) (by rw [← hr0]; first | done | rfl))
        (repeat (first | simp [-invQ_normal, resultOf, a0, a1, hg, hl, c2, c3, hmn, g5, wordC, aBin, aUn, pow2_ne, pow2_ne_i, eqCells, eqCell, int_beq, splice, alloc1_loc, box1_loc, bld, aFill] | simp (disch := omega) only [shr_u64, shl_u64, and1_u64, fdiv_nn, wrap_i64, wrap_u64, tmod_nn, tdiv_nn, idx_w])) <;> (have e : ((m : Int) % 64).toNat = m % 64 := (by omega); have hm2 : (m : Int) < 1048576 := (by omega); rw [he, e]; simp only [bit_eq (bits_get hb hi).1]; simp [hm2])
      · simp only [AVal.raw.injEq, Value.bool.injEq, decide_eq_false_iff_not, decide_eq_true_eq, Bool.not_eq_true, Bool.not_eq_false, Bool.not_eq_eq_eq_not, Bool.not_true, Bool.not_false, Bool.and_eq_true, Bool.or_eq_true, Bool.or_eq_false_iff] at g5
        have he := has_out hrs g5
        (repeat (first | simp [-invQ_normal, a0, a1, hg, hl, c2, c3, hmn, g5, wordC, aBin, aUn, pow2_ne, pow2_ne_i, eqCells, eqCell, int_beq, splice, alloc1_loc, box1_loc, bld, aFill] | simp (disch := omega) only [shr_u64, shl_u64, and1_u64, fdiv_nn, wrap_i64, wrap_u64, tmod_nn, tdiv_nn, idx_w]))
        refine aw_ret (retQ_vals (gs := gs) [.raw (.bool (goodI (-1) ws && (decide (0 ≤ n) && decide (n < 1048576)) && inI ws n.toNat)), .raw (.int .i64 (if goodI (-1) ws then (if 0 ≤ n ∧ n < 1048576 then 0 else 2) else 8))] (.inr rfl) ?_ (by simp [givenAs, AVal.fixed, rawCell]) (by (repeat (first | simp [-invQ_normal, a0, a1, hg, hl, c2, c3, hmn, g5, wordC, aBin, aUn, pow2_ne, pow2_ne_i, eqCells, eqCell, int_beq, splice, alloc1_loc, box1_loc, bld, aFill] | simp (disch := omega) only [shr_u64, shl_u64, and1_u64, fdiv_nn, wrap_i64, wrap_u64, tmod_nn, tdiv_nn, idx_w]))) (by rw [← hr0]; first | done | rfl))
        (repeat (first | simp [-invQ_normal, resultOf, a0, a1, hg, hl, c2, c3, hmn, g5, wordC, aBin, aUn, pow2_ne, pow2_ne_i, eqCells, eqCell, int_beq, splice, alloc1_loc, box1_loc, bld, aFill] | simp (disch := omega) only [shr_u64, shl_u64, and1_u64, fdiv_nn, wrap_i64, wrap_u64, tmod_nn, tdiv_nn, idx_w])) <;> (exact ⟨fun _ => he, by omega⟩)
set_option maxHeartbeats 800000 in
theorem ev_Has_ref (ws : List (Int × Int)) (hl : ws.length ≤ 16384) (hb : bits64 ws) (n : Int) (hn : -9223372036854775808 ≤ n ∧ n < 9223372036854775808) (base : Nat) (gs : GS)  : Evals E 11 [.sl (ws.map wordC), .raw (.int .i64 n)] base gs ([.v (.raw (.bool (goodI (-1) ws && (decide (0 ≤ n) && decide (n < 1048576)) && inI ws n.toNat))), .v (.raw (.int .i64 (if goodI (-1) ws then (if 0 ≤ n ∧ n < 1048576 then 0 else 2) else 8)))], gs) := by
  refine evals_walk 18 #[.tmp 4, .tmp 5] rfl (by kernel_rfl) b11_eq (by kernel_rfl) (by kernel_rfl) (by simp) fun s hs hm => ?_
  have a0 : s.get 0 = .sl (ws.map wordC) := by simpa using hs 0
  have a1 : s.get 1 = .raw (.int .i64 n) := by simpa using hs 1
  have hg : s.m.gs = gs := by rw [hm]
  clear hs
  generalize hr0 : (([.v (.raw (.bool (goodI (-1) ws && (decide (0 ≤ n) && decide (n < 1048576)) && inI ws n.toNat))), .v (.raw (.int .i64 (if goodI (-1) ws then (if 0 ≤ n ∧ n < 1048576 then 0 else 2) else 8)))], gs) : List RV × GS) = r0
  unfold b11
  refine aw_seq (aw_region_q r11_0 ?_)
  (repeat (first | simp [-invQ_normal, l11_0, a0, a1, hg, hl, wordC, aBin, aUn, pow2_ne, pow2_ne_i, eqCells, eqCell, int_beq, splice, alloc1_loc, box1_loc, bld, aFill] | simp (disch := omega) only [shr_u64, shl_u64, and1_u64, fdiv_nn, wrap_i64, wrap_u64, tmod_nn, tdiv_nn, idx_w]))
  refine aw_seq ?_
  refine aw_seq (aw_region_q r11_1 ?_)
  (repeat (first | simp [-invQ_normal, l11_1, a0, a1, hg, hl, wordC, aBin, aUn, pow2_ne, pow2_ne_i, eqCells, eqCell, int_beq, splice, alloc1_loc, box1_loc, bld, aFill] | simp (disch := omega) only [shr_u64, shl_u64, and1_u64, fdiv_nn, wrap_i64, wrap_u64, tmod_nn, tdiv_nn, idx_w]))
  refine wpC_vals (ev_May _ (by omega) _ _) (by simp) (by simp [isRow]) (by simp) (by first | simp | assumption) (by simp [plainArg, plain1, AVal.shared, AVal.shared.sharedOne, rawCell]) ⟨by simp, ?_⟩
  (repeat (first | simp [-invQ_normal, a0, a1, hg, hl, wordC, aBin, aUn, pow2_ne, pow2_ne_i, eqCells, eqCell, int_beq, splice, alloc1_loc, box1_loc, bld, aFill] | simp (disch := omega) only [shr_u64, shl_u64, and1_u64, fdiv_nn, wrap_i64, wrap_u64, tmod_nn, tdiv_nn, idx_w]))
  refine aw_cond_v ?_
  (repeat (first | simp [-invQ_normal, a0, a1, hg, hl, wordC, aBin, aUn, pow2_ne, pow2_ne_i, eqCells, eqCell, int_beq, splice, alloc1_loc, box1_loc, bld, aFill] | simp (disch := omega) only [shr_u64, shl_u64, and1_u64, fdiv_nn, wrap_i64, wrap_u64, tmod_nn, tdiv_nn, idx_w]))
  refine condV_split ⟨_, rfl⟩ (fun c2 => ?_) (fun c2 => ?_)
  · simp only [AVal.raw.injEq, Value.bool.injEq, decide_eq_false_iff_not, decide_eq_true_eq, Bool.not_eq_true, Bool.not_eq_false, Bool.not_eq_eq_eq_not, Bool.not_true, Bool.not_false, Bool.and_eq_true, Bool.or_eq_true, Bool.or_eq_false_iff] at c2
    refine aw_seq (aw_region_q r11_2 ?_)
    (repeat (first | simp [-invQ_normal, l11_2, a0, a1, hg, hl, c2, wordC, aBin, aUn, pow2_ne, pow2_ne_i, eqCells, eqCell, int_beq, splice, alloc1_loc, box1_loc, bld, aFill] | simp (disch := omega) only [shr_u64, shl_u64, and1_u64, fdiv_nn, wrap_i64, wrap_u64, tmod_nn, tdiv_nn, idx_w]))
    refine aw_ret (retQ_vals (gs := gs) [.raw (.bool (goodI (-1) ws && (decide (0 ≤ n) && decide (n < 1048576)) && inI ws n.toNat)), .raw (.int .i64 (if goodI (-1) ws then (if 0 ≤ n ∧ n < 1048576 then 0 else 2) else 8))] (.inr rfl) ?_ (by simp [givenAs, AVal.fixed, rawCell]) (by (repeat (first | simp [-invQ_normal, a0, a1, hg, hl, c2, wordC, aBin, aUn, pow2_ne, pow2_ne_i, eqCells, eqCell, int_beq, splice, alloc1_loc, box1_loc, bld, aFill] | simp (disch := omega) only [shr_u64, shl_u64, and1_u64, fdiv_nn, wrap_i64, wrap_u64, tmod_nn, tdiv_nn, idx_w]))) (by rw [← hr0]; first | done | rfl))
    (repeat (first | simp [-invQ_normal, resultOf, a0, a1, hg, hl, c2, wordC, aBin, aUn, pow2_ne, pow2_ne_i, eqCells, eqCell, int_beq, splice, alloc1_loc, box1_loc, bld, aFill] | simp (disch := omega) only [shr_u64, shl_u64, and1_u64, fdiv_nn, wrap_i64, wrap_u64, tmod_nn, tdiv_nn, idx_w]))
  · simp only [AVal.raw.injEq, Value.bool.injEq, decide_eq_false_iff_not, decide_eq_true_eq, Bool.not_eq_true, Bool.not_eq_false, Bool.not_eq_eq_eq_not, Bool.not_true, Bool.not_false, Bool.and_eq_true, Bool.or_eq_true, Bool.or_eq_false_iff] at c2
    refine aw_skip ?_
    try simp only [seqQ_normal, seqQ_exit, seqQ_ret, blockQ_normal, blockQ_ret, blockQ_exit, invQ_exit, invQ_ret, endQ_eq, if_true, reduceIte, Nat.reduceEqDiff, reduceCtorEq]
    refine aw_seq ?_
    refine aw_seq (aw_region_q r11_3 ?_)
    (repeat (first | simp [-invQ_normal, l11_3, a0, a1, hg, hl, c2, wordC, aBin, aUn, pow2_ne, pow2_ne_i, eqCells, eqCell, int_beq, splice, alloc1_loc, box1_loc, bld, aFill] | simp (disch := omega) only [shr_u64, shl_u64, and1_u64, fdiv_nn, wrap_i64, wrap_u64, tmod_nn, tdiv_nn, idx_w]))
    refine wpG_split ⟨_, rfl⟩ (fun g4 => ?_) (fun g4 => ?_)
    · simp only [AVal.raw.injEq, Value.bool.injEq, decide_eq_false_iff_not, decide_eq_true_eq, Bool.not_eq_true, Bool.not_eq_false, Bool.not_eq_eq_eq_not, Bool.not_true, Bool.not_false, Bool.and_eq_true, Bool.or_eq_true, Bool.or_eq_false_iff] at g4
      (repeat (first | simp [-invQ_normal, a0, a1, hg, hl, c2, g4, wordC, aBin, aUn, pow2_ne, pow2_ne_i, eqCells, eqCell, int_beq, splice, alloc1_loc, box1_loc, bld, aFill] | simp (disch := omega) only [shr_u64, shl_u64, and1_u64, fdiv_nn, wrap_i64, wrap_u64, tmod_nn, tdiv_nn, idx_w]))
      refine aw_cond_1 (by (repeat (first | simp [-invQ_normal, a0, a1, hg, hl, c2, g4, wordC, aBin, aUn, pow2_ne, pow2_ne_i, eqCells, eqCell, int_beq, splice, alloc1_loc, box1_loc, bld, aFill] | simp (disch := omega) only [shr_u64, shl_u64, and1_u64, fdiv_nn, wrap_i64, wrap_u64, tmod_nn, tdiv_nn, idx_w]))) ?_
      refine aw_seq (aw_region_q r11_4 ?_)
      (repeat (first | simp [-invQ_normal, l11_4, a0, a1, hg, hl, c2, g4, wordC, aBin, aUn, pow2_ne, pow2_ne_i, eqCells, eqCell, int_beq, splice, alloc1_loc, box1_loc, bld, aFill] | simp (disch := omega) only [shr_u64, shl_u64, and1_u64, fdiv_nn, wrap_i64, wrap_u64, tmod_nn, tdiv_nn, idx_w]))
      refine aw_ret (retQ_vals (gs := gs) [.raw (.bool (goodI (-1) ws && (decide (0 ≤ n) && decide (n < 1048576)) && inI ws n.toNat)), .raw (.int .i64 (if goodI (-1) ws then (if 0 ≤ n ∧ n < 1048576 then 0 else 2) else 8))] (.inr rfl) ?_ (by simp [givenAs, AVal.fixed, rawCell]) (by (repeat (first | simp [-invQ_normal, a0, a1, hg, hl, c2, g4, wordC, aBin, aUn, pow2_ne, pow2_ne_i, eqCells, eqCell, int_beq, splice, alloc1_loc, box1_loc, bld, aFill] | simp (disch := omega) only [shr_u64, shl_u64, and1_u64, fdiv_nn, wrap_i64, wrap_u64, tmod_nn, tdiv_nn, idx_w]))) (by rw [← hr0]; first | done | rfl))
      (repeat (first | simp [-invQ_normal, resultOf, a0, a1, hg, hl, c2, g4, wordC, aBin, aUn, pow2_ne, pow2_ne_i, eqCells, eqCell, int_beq, splice, alloc1_loc, box1_loc, bld, aFill] | simp (disch := omega) only [shr_u64, shl_u64, and1_u64, fdiv_nn, wrap_i64, wrap_u64, tmod_nn, tdiv_nn, idx_w])) <;> (exact ⟨fun h1 h2 => by omega, fun h => by omega⟩)
    · simp only [AVal.raw.injEq, Value.bool.injEq, decide_eq_false_iff_not, decide_eq_true_eq, Bool.not_eq_true, Bool.not_eq_false, Bool.not_eq_eq_eq_not, Bool.not_true, Bool.not_false, Bool.and_eq_true, Bool.or_eq_true, Bool.or_eq_false_iff] at g4
      (repeat (first | simp [-invQ_normal, a0, a1, hg, hl, c2, g4, wordC, aBin, aUn, pow2_ne, pow2_ne_i, eqCells, eqCell, int_beq, splice, alloc1_loc, box1_loc, bld, aFill] | simp (disch := omega) only [shr_u64, shl_u64, and1_u64, fdiv_nn, wrap_i64, wrap_u64, tmod_nn, tdiv_nn, idx_w]))
      refine aw_cond_v ?_
      (repeat (first | simp [-invQ_normal, a0, a1, hg, hl, c2, g4, wordC, aBin, aUn, pow2_ne, pow2_ne_i, eqCells, eqCell, int_beq, splice, alloc1_loc, box1_loc, bld, aFill] | simp (disch := omega) only [shr_u64, shl_u64, and1_u64, fdiv_nn, wrap_i64, wrap_u64, tmod_nn, tdiv_nn, idx_w]))
      refine condV_split ⟨_, rfl⟩ (fun c6 => ?_) (fun c6 => ?_)
      · simp only [AVal.raw.injEq, Value.bool.injEq, decide_eq_false_iff_not, decide_eq_true_eq, Bool.not_eq_true, Bool.not_eq_false, Bool.not_eq_eq_eq_not, Bool.not_true, Bool.not_false, Bool.and_eq_true, Bool.or_eq_true, Bool.or_eq_false_iff] at c6
        refine aw_seq (aw_region_q r11_4 ?_)
        (repeat (first | simp [-invQ_normal, l11_4, a0, a1, hg, hl, c2, g4, c6, wordC, aBin, aUn, pow2_ne, pow2_ne_i, eqCells, eqCell, int_beq, splice, alloc1_loc, box1_loc, bld, aFill] | simp (disch := omega) only [shr_u64, shl_u64, and1_u64, fdiv_nn, wrap_i64, wrap_u64, tmod_nn, tdiv_nn, idx_w]))
        refine aw_ret (retQ_vals (gs := gs) [.raw (.bool (goodI (-1) ws && (decide (0 ≤ n) && decide (n < 1048576)) && inI ws n.toNat)), .raw (.int .i64 (if goodI (-1) ws then (if 0 ≤ n ∧ n < 1048576 then 0 else 2) else 8))] (.inr rfl) ?_ (by simp [givenAs, AVal.fixed, rawCell]) (by (repeat (first | simp [-invQ_normal, a0, a1, hg, hl, c2, g4, c6, wordC, aBin, aUn, pow2_ne, pow2_ne_i, eqCells, eqCell, int_beq, splice, alloc1_loc, box1_loc, bld, aFill] | simp (disch := omega) only [shr_u64, shl_u64, and1_u64, fdiv_nn, wrap_i64, wrap_u64, tmod_nn, tdiv_nn, idx_w]))) (by rw [← hr0]; first | done | rfl))
        (repeat (first | simp [-invQ_normal, resultOf, a0, a1, hg, hl, c2, g4, c6, wordC, aBin, aUn, pow2_ne, pow2_ne_i, eqCells, eqCell, int_beq, splice, alloc1_loc, box1_loc, bld, aFill] | simp (disch := omega) only [shr_u64, shl_u64, and1_u64, fdiv_nn, wrap_i64, wrap_u64, tmod_nn, tdiv_nn, idx_w])) <;> (exact fun h1 h2 => by omega)
      · simp only [AVal.raw.injEq, Value.bool.injEq, decide_eq_false_iff_not, decide_eq_true_eq, Bool.not_eq_true, Bool.not_eq_false, Bool.not_eq_eq_eq_not, Bool.not_true, Bool.not_false, Bool.and_eq_true, Bool.or_eq_true, Bool.or_eq_false_iff] at c6
        refine aw_skip ?_
        try simp only [seqQ_normal, seqQ_exit, seqQ_ret, blockQ_normal, blockQ_ret, blockQ_exit, invQ_exit, invQ_ret, endQ_eq, if_true, reduceIte, Nat.reduceEqDiff, reduceCtorEq]
        refine aw_seq (aw_region_q r11_5 ?_)
        obtain ⟨m, hmn⟩ : ∃ m : Nat, n = m := ⟨n.toNat, by omega⟩
        (repeat (first | simp [-invQ_normal, l11_5, a0, a1, hg, hl, c2, g4, c6, hmn, wordC, aBin, aUn, pow2_ne, pow2_ne_i, eqCells, eqCell, int_beq, splice, alloc1_loc, box1_loc, bld, aFill] | simp (disch := omega) only [shr_u64, shl_u64, and1_u64, fdiv_nn, wrap_i64, wrap_u64, tmod_nn, tdiv_nn, idx_w]))
        refine wpC_vals (ev_In ws (by omega) hb m (by omega) _ _) (by simp) (by simp [isRow]) (by simp) (by first | simp | assumption) (by simp [plainArg, plain1, AVal.shared, AVal.shared.sharedOne, rawCell]) ⟨by simp, ?_⟩
        (repeat (first | simp [-invQ_normal, a0, a1, hg, hl, c2, g4, c6, hmn, wordC, aBin, aUn, pow2_ne, pow2_ne_i, eqCells, eqCell, int_beq, splice, alloc1_loc, box1_loc, bld, aFill] | simp (disch := omega) only [shr_u64, shl_u64, and1_u64, fdiv_nn, wrap_i64, wrap_u64, tmod_nn, tdiv_nn, idx_w]))
        refine aw_ret (retQ_vals (gs := gs) [.raw (.bool (goodI (-1) ws && (decide (0 ≤ n) && decide (n < 1048576)) && inI ws n.toNat)), .raw (.int .i64 (if goodI (-1) ws then (if 0 ≤ n ∧ n < 1048576 then 0 else 2) else 8))] (.inr rfl) ?_ (by simp [givenAs, AVal.fixed, rawCell]) (by (repeat (first | simp [-invQ_normal, a0, a1, hg, hl, c2, g4, c6, hmn, wordC, aBin, aUn, pow2_ne, pow2_ne_i, eqCells, eqCell, int_beq, splice, alloc1_loc, box1_loc, bld, aFill] | simp (disch := omega) only [shr_u64, shl_u64, and1_u64, fdiv_nn, wrap_i64, wrap_u64, tmod_nn, tdiv_nn, idx_w]))) (by rw [← hr0]; first | done | rfl))
        (repeat (first | simp [-invQ_normal, resultOf, a0, a1, hg, hl, c2, g4, c6, hmn, wordC, aBin, aUn, pow2_ne, pow2_ne_i, eqCells, eqCell, int_beq, splice, alloc1_loc, box1_loc, bld, aFill] | simp (disch := omega) only [shr_u64, shl_u64, and1_u64, fdiv_nn, wrap_i64, wrap_u64, tmod_nn, tdiv_nn, idx_w])) <;> (exact ⟨fun _ => by omega, by omega⟩)
set_option maxHeartbeats 800000 in
theorem ev_Ones (n : Nat) (hx : n < 18446744073709551616) (base : Nat) (gs : GS)  : Evals E 33 [.raw (.int .u64 n)] base gs ([.v (.raw (.int .i64 (popI n)))], gs) := by
  refine evals_walk 35 #[.tmp 2] rfl (by kernel_rfl) b33_eq (by kernel_rfl) (by kernel_rfl) (by simp) fun s hs hm => ?_
  have a0 : s.get 0 = .raw (.int .u64 n) := by simpa using hs 0
  have hg : s.m.gs = gs := by rw [hm]
  clear hs
  have hb2 : halves 2 16 (halves 1 32 n) < 9223372036854775808 := (pop_steps n hx).2.1
  have hb1 : halves 1 32 n < 18446744073709551616 := (pop_steps n hx).1
  generalize hr0 : (([.v (.raw (.int .i64 (popI n)))], gs) : List RV × GS) = r0
  unfold b33
  refine aw_seq (aw_region_q r33_0 ?_)
  (repeat (first | simp [-invQ_normal, l33_0, a0, hg, aConvert, wordC, aBin, aUn, pow2_ne, pow2_ne_i, eqCells, eqCell, int_beq, splice, alloc1_loc, box1_loc, bld, aFill] | simp (disch := omega) only [and_u64n, and_u64, and127_i64, shr_u64, shl_u64, and1_u64, fdiv_nn, wrap_i64, wrap_u64, tmod_nn, tdiv_nn, idx_w]))
  refine aw_seq (aw_region_q r33_1 ?_)
  (repeat (first | simp [-invQ_normal, l33_1, a0, hg, aConvert, wordC, aBin, aUn, pow2_ne, pow2_ne_i, eqCells, eqCell, int_beq, splice, alloc1_loc, box1_loc, bld, aFill] | simp (disch := omega) only [and_u64n, and_u64, and127_i64, shr_u64, shl_u64, and1_u64, fdiv_nn, wrap_i64, wrap_u64, tmod_nn, tdiv_nn, idx_w]))
  rw [ones1 n]
  generalize hy1 : halves 1 32 n = y1 at *
  refine aw_seq (aw_region_q r33_2 ?_)
  (repeat (first | simp [-invQ_normal, l33_2, a0, hg, aConvert, wordC, aBin, aUn, pow2_ne, pow2_ne_i, eqCells, eqCell, int_beq, splice, alloc1_loc, box1_loc, bld, aFill] | simp (disch := omega) only [and_u64n, and_u64, and127_i64, shr_u64, shl_u64, and1_u64, fdiv_nn, wrap_i64, wrap_u64, tmod_nn, tdiv_nn, idx_w]))
  rw [ones2 y1]
  generalize hy2 : halves 2 16 y1 = y2 at *
  refine aw_seq (aw_region_q r33_3 ?_)
  (repeat (first | simp [-invQ_normal, l33_3, a0, hg, aConvert, wordC, aBin, aUn, pow2_ne, pow2_ne_i, eqCells, eqCell, int_beq, splice, alloc1_loc, box1_loc, bld, aFill] | simp (disch := omega) only [and_u64n, and_u64, and127_i64, shr_u64, shl_u64, and1_u64, fdiv_nn, wrap_i64, wrap_u64, tmod_nn, tdiv_nn, idx_w]))
  refine aw_seq (aw_region_q r33_4 ?_)
  (repeat (first | simp [-invQ_normal, l33_4, a0, hg, aConvert, wordC, aBin, aUn, pow2_ne, pow2_ne_i, eqCells, eqCell, int_beq, splice, alloc1_loc, box1_loc, bld, aFill] | simp (disch := omega) only [and_u64n, and_u64, and127_i64, shr_u64, shl_u64, and1_u64, fdiv_nn, wrap_i64, wrap_u64, tmod_nn, tdiv_nn, idx_w]))
  refine aw_seq (aw_region_q r33_5 ?_)
  (repeat (first | simp [-invQ_normal, l33_5, a0, hg, aConvert, wordC, aBin, aUn, pow2_ne, pow2_ne_i, eqCells, eqCell, int_beq, splice, alloc1_loc, box1_loc, bld, aFill] | simp (disch := omega) only [and_u64n, and_u64, and127_i64, shr_u64, shl_u64, and1_u64, fdiv_nn, wrap_i64, wrap_u64, tmod_nn, tdiv_nn, idx_w]))
  refine aw_seq (aw_region_q r33_6 ?_)
  (repeat (first | simp [-invQ_normal, l33_6, a0, hg, aConvert, wordC, aBin, aUn, pow2_ne, pow2_ne_i, eqCells, eqCell, int_beq, splice, alloc1_loc, box1_loc, bld, aFill] | simp (disch := omega) only [and_u64n, and_u64, and127_i64, shr_u64, shl_u64, and1_u64, fdiv_nn, wrap_i64, wrap_u64, tmod_nn, tdiv_nn, idx_w]))
  refine aw_seq (aw_region_q r33_7 ?_)
  (repeat (first | simp [-invQ_normal, l33_7, a0, hg, aConvert, wordC, aBin, aUn, pow2_ne, pow2_ne_i, eqCells, eqCell, int_beq, splice, alloc1_loc, box1_loc, bld, aFill] | simp (disch := omega) only [and_u64n, and_u64, and127_i64, shr_u64, shl_u64, and1_u64, fdiv_nn, wrap_i64, wrap_u64, tmod_nn, tdiv_nn, idx_w]))
  refine aw_ret (retQ_vals (gs := gs) [.raw (.int .i64 (popI n))] (.inr rfl) ?_ (by simp [givenAs, AVal.fixed, rawCell]) (by (repeat (first | simp [-invQ_normal, a0, hg, aConvert, wordC, aBin, aUn, pow2_ne, pow2_ne_i, eqCells, eqCell, int_beq, splice, alloc1_loc, box1_loc, bld, aFill] | simp (disch := omega) only [and_u64n, and_u64, and127_i64, shr_u64, shl_u64, and1_u64, fdiv_nn, wrap_i64, wrap_u64, tmod_nn, tdiv_nn, idx_w]))) (by rw [← hr0]; first | done | rfl))
  (repeat (first | simp [-invQ_normal, resultOf, a0, hg, aConvert, wordC, aBin, aUn, pow2_ne, pow2_ne_i, eqCells, eqCell, int_beq, splice, alloc1_loc, box1_loc, bld, aFill] | simp (disch := omega) only [and_u64n, and_u64, and127_i64, shr_u64, shl_u64, and1_u64, fdiv_nn, wrap_i64, wrap_u64, tmod_nn, tdiv_nn, idx_w])) <;> (exact ones_fin hx hy1 hy2)
theorem ev_Ones' (x : Int) (hx : 0 ≤ x ∧ x < 18446744073709551616) (base : Nat) (gs : GS) : Evals E 33 [.raw (.int .u64 x)] base gs ([.v (.raw (.int .i64 (popI x)))], gs) := by
  obtain ⟨n, rfl⟩ : ∃ n : Nat, x = n := ⟨x.toNat, by omega⟩
  exact ev_Ones n (by omega) base gs
set_option maxHeartbeats 800000 in
theorem ev_Size (ws : List (Int × Int)) (hl : ws.length ≤ 16384) (hb : bits64 ws) (base : Nat) (gs : GS)  : Evals E 12 [.sl (ws.map wordC)] base gs ([.v (.raw (.int .i64 (if goodI (-1) ws then sizeI ws else 0))), .v (.raw (.int .i64 (if goodI (-1) ws then 0 else 8)))], gs) := by
  refine evals_walk 25 #[.tmp 2, .tmp 3] rfl (by kernel_rfl) b12_eq (by kernel_rfl) (by kernel_rfl) (by simp) fun s hs hm => ?_
  have a0 : s.get 0 = .sl (ws.map wordC) := by simpa using hs 0
  have hg : s.m.gs = gs := by rw [hm]
  clear hs
  generalize hr0 : (([.v (.raw (.int .i64 (if goodI (-1) ws then sizeI ws else 0))), .v (.raw (.int .i64 (if goodI (-1) ws then 0 else 8)))], gs) : List RV × GS) = r0
  unfold b12
  refine aw_seq (aw_region_q r12_0 ?_)
  (repeat (first | simp [-invQ_normal, l12_0, a0, hg, hl, wordC, aBin, aUn, pow2_ne, pow2_ne_i, eqCells, eqCell, int_beq, splice, alloc1_loc, box1_loc, bld, aFill] | simp (disch := omega) only [shr_u64, shl_u64, and1_u64, fdiv_nn, wrap_i64, wrap_u64, tmod_nn, tdiv_nn, idx_w]))
  refine aw_seq ?_
  refine aw_seq (aw_region_q r12_1 ?_)
  (repeat (first | simp [-invQ_normal, l12_1, a0, hg, hl, wordC, aBin, aUn, pow2_ne, pow2_ne_i, eqCells, eqCell, int_beq, splice, alloc1_loc, box1_loc, bld, aFill] | simp (disch := omega) only [shr_u64, shl_u64, and1_u64, fdiv_nn, wrap_i64, wrap_u64, tmod_nn, tdiv_nn, idx_w]))
  refine wpC_vals (ev15 (x := extL) rfl ws (by omega) _ _) (by simp) (by simp [isRow]) (by simp) (by first | simp | assumption) (by simp [plainArg, plain1, AVal.shared, AVal.shared.sharedOne, rawCell]) ⟨by simp, ?_⟩
  (repeat (first | simp [-invQ_normal, a0, hg, hl, wordC, aBin, aUn, pow2_ne, pow2_ne_i, eqCells, eqCell, int_beq, splice, alloc1_loc, box1_loc, bld, aFill] | simp (disch := omega) only [shr_u64, shl_u64, and1_u64, fdiv_nn, wrap_i64, wrap_u64, tmod_nn, tdiv_nn, idx_w]))
  refine aw_seq (aw_region_q r12_2 ?_)
  (repeat (first | simp [-invQ_normal, l12_2, a0, hg, hl, wordC, aBin, aUn, pow2_ne, pow2_ne_i, eqCells, eqCell, int_beq, splice, alloc1_loc, box1_loc, bld, aFill] | simp (disch := omega) only [shr_u64, shl_u64, and1_u64, fdiv_nn, wrap_i64, wrap_u64, tmod_nn, tdiv_nn, idx_w]))
  refine aw_cond_v ?_
  (repeat (first | simp [-invQ_normal, a0, hg, hl, wordC, aBin, aUn, pow2_ne, pow2_ne_i, eqCells, eqCell, int_beq, splice, alloc1_loc, box1_loc, bld, aFill] | simp (disch := omega) only [shr_u64, shl_u64, and1_u64, fdiv_nn, wrap_i64, wrap_u64, tmod_nn, tdiv_nn, idx_w]))
  refine condV_split ⟨_, rfl⟩ (fun c3 => ?_) (fun c3 => ?_)
  · simp only [AVal.raw.injEq, Value.bool.injEq, decide_eq_false_iff_not, decide_eq_true_eq, Bool.not_eq_true, Bool.not_eq_false, Bool.not_eq_eq_eq_not, Bool.not_true, Bool.not_false, Bool.and_eq_true, Bool.or_eq_true, Bool.or_eq_false_iff] at c3
    refine aw_seq (aw_region_q r12_3 ?_)
    (repeat (first | simp [-invQ_normal, l12_3, a0, hg, hl, c3, wordC, aBin, aUn, pow2_ne, pow2_ne_i, eqCells, eqCell, int_beq, splice, alloc1_loc, box1_loc, bld, aFill] | simp (disch := omega) only [shr_u64, shl_u64, and1_u64, fdiv_nn, wrap_i64, wrap_u64, tmod_nn, tdiv_nn, idx_w]))
    refine aw_ret (retQ_vals (gs := gs) [.raw (.int .i64 (if goodI (-1) ws then sizeI ws else 0)), .raw (.int .i64 (if goodI (-1) ws then 0 else 8))] (.inr rfl) ?_ (by simp [givenAs, AVal.fixed, rawCell]) (by (repeat (first | simp [-invQ_normal, a0, hg, hl, c3, wordC, aBin, aUn, pow2_ne, pow2_ne_i, eqCells, eqCell, int_beq, splice, alloc1_loc, box1_loc, bld, aFill] | simp (disch := omega) only [shr_u64, shl_u64, and1_u64, fdiv_nn, wrap_i64, wrap_u64, tmod_nn, tdiv_nn, idx_w]))) (by rw [← hr0]; first | done | rfl))
    (repeat (first | simp [-invQ_normal, resultOf, a0, hg, hl, c3, wordC, aBin, aUn, pow2_ne, pow2_ne_i, eqCells, eqCell, int_beq, splice, alloc1_loc, box1_loc, bld, aFill] | simp (disch := omega) only [shr_u64, shl_u64, and1_u64, fdiv_nn, wrap_i64, wrap_u64, tmod_nn, tdiv_nn, idx_w])) <;> ((rw [List.take_of_length_le (by omega)]; simp_all))
  · simp only [AVal.raw.injEq, Value.bool.injEq, decide_eq_false_iff_not, decide_eq_true_eq, Bool.not_eq_true, Bool.not_eq_false, Bool.not_eq_eq_eq_not, Bool.not_true, Bool.not_false, Bool.and_eq_true, Bool.or_eq_true, Bool.or_eq_false_iff] at c3
    refine aw_skip ?_
    try simp only [seqQ_normal, seqQ_exit, seqQ_ret, blockQ_normal, blockQ_ret, blockQ_exit, invQ_exit, invQ_ret, endQ_eq, if_true, reduceIte, Nat.reduceEqDiff, reduceCtorEq]
    refine aw_seq ?_
    refine aw_seq (aw_region_q r12_4 ?_)
    (repeat (first | simp [-invQ_normal, l12_4, a0, hg, hl, c3, wordC, aBin, aUn, pow2_ne, pow2_ne_i, eqCells, eqCell, int_beq, splice, alloc1_loc, box1_loc, bld, aFill] | simp (disch := omega) only [shr_u64, shl_u64, and1_u64, fdiv_nn, wrap_i64, wrap_u64, tmod_nn, tdiv_nn, idx_w]))
    refine aw_block ?_
    obtain ⟨I6, hI6⟩ : ∃ I : Nat → St → Prop, I = fun k s => ∃ (i : Nat), k = ws.length - i ∧ s.get 12 = .sl (ws.map wordC) ∧ s.get 13 = .raw (.int .i64 ws.length) ∧ s.get 14 = .raw (.int .i64 i) ∧ s.get 2 = .raw (.int .i64 (sizeI (ws.take i))) ∧ s.m.gs = gs ∧ (i ≤ ws.length) := ⟨_, rfl⟩
    refine aw_inv2 I6 ?_ ?_
    · rw [hI6]
      refine ⟨_, 0, rfl, ?_⟩
      (repeat (first | simp [-invQ_normal, a0, hg, hl, c3, wordC, aBin, aUn, pow2_ne, pow2_ne_i, eqCells, eqCell, int_beq, splice, alloc1_loc, box1_loc, bld, aFill] | simp (disch := omega) only [shr_u64, shl_u64, and1_u64, fdiv_nn, wrap_i64, wrap_u64, tmod_nn, tdiv_nn, idx_w])) <;> (simp [sizeI, natW, numsA])
    · intro k s hI0
      rw [hI6] at hI0
      obtain ⟨i, k7, i8_12, i9_13, i10_14, i11_2, hg, hi⟩ := hI0
      unfold b12_L0
      refine aw_seq (aw_region_q r12_5 ?_)
      (repeat (first | simp [-invQ_normal, l12_5, hl, i8_12, i9_13, i10_14, i11_2, hg, wordC, aBin, aUn, pow2_ne, pow2_ne_i, eqCells, eqCell, int_beq, splice, alloc1_loc, box1_loc, bld, aFill] | simp (disch := omega) only [shr_u64, shl_u64, and1_u64, fdiv_nn, wrap_i64, wrap_u64, tmod_nn, tdiv_nn, idx_w]))
      refine aw_seq ?_
      refine aw_cond_v ?_
      (repeat (first | simp [-invQ_normal, hl, i8_12, i9_13, i10_14, i11_2, hg, wordC, aBin, aUn, pow2_ne, pow2_ne_i, eqCells, eqCell, int_beq, splice, alloc1_loc, box1_loc, bld, aFill] | simp (disch := omega) only [shr_u64, shl_u64, and1_u64, fdiv_nn, wrap_i64, wrap_u64, tmod_nn, tdiv_nn, idx_w]))
      refine condV_split ⟨_, rfl⟩ (fun c13 => ?_) (fun c13 => ?_)
      · simp only [AVal.raw.injEq, Value.bool.injEq, decide_eq_false_iff_not, decide_eq_true_eq, Bool.not_eq_true, Bool.not_eq_false, Bool.not_eq_eq_eq_not, Bool.not_true, Bool.not_false, Bool.and_eq_true, Bool.or_eq_true, Bool.or_eq_false_iff] at c13
        refine aw_skip ?_
        try simp only [seqQ_normal, seqQ_exit, seqQ_ret, blockQ_normal, blockQ_ret, blockQ_exit, invQ_exit, invQ_ret, endQ_eq, if_true, reduceIte, Nat.reduceEqDiff, reduceCtorEq]
        refine aw_seq ?_
        refine aw_block ?_
        refine aw_seq (aw_region_q r12_6 ?_)
        (repeat (first | simp [-invQ_normal, l12_6, hl, i8_12, i9_13, i10_14, i11_2, hg, c13, wordC, aBin, aUn, pow2_ne, pow2_ne_i, eqCells, eqCell, int_beq, splice, alloc1_loc, box1_loc, bld, aFill] | simp (disch := omega) only [shr_u64, shl_u64, and1_u64, fdiv_nn, wrap_i64, wrap_u64, tmod_nn, tdiv_nn, idx_w]))
        refine aw_region_q r12_7 ?_
        (repeat (first | simp [-invQ_normal, l12_7, hl, i8_12, i9_13, i10_14, i11_2, hg, c13, wordC, aBin, aUn, pow2_ne, pow2_ne_i, eqCells, eqCell, int_beq, splice, alloc1_loc, box1_loc, bld, aFill] | simp (disch := omega) only [shr_u64, shl_u64, and1_u64, fdiv_nn, wrap_i64, wrap_u64, tmod_nn, tdiv_nn, idx_w]))
        refine wpC_vals (ev_Ones' _ (bits_get hb (by omega)) _ _) (by simp) (by simp [isRow]) (by simp) (by first | simp | assumption) (by simp [plainArg, plain1, AVal.shared, AVal.shared.sharedOne, rawCell]) ⟨by simp, ?_⟩
        (repeat (first | simp [-invQ_normal, hl, i8_12, i9_13, i10_14, i11_2, hg, c13, wordC, aBin, aUn, pow2_ne, pow2_ne_i, eqCells, eqCell, int_beq, splice, alloc1_loc, box1_loc, bld, aFill] | simp (disch := omega) only [shr_u64, shl_u64, and1_u64, fdiv_nn, wrap_i64, wrap_u64, tmod_nn, tdiv_nn, idx_w]))
        refine aw_region_q r12_8 ?_
        (repeat (first | simp [-invQ_normal, l12_8, hl, i8_12, i9_13, i10_14, i11_2, hg, c13, wordC, aBin, aUn, pow2_ne, pow2_ne_i, eqCells, eqCell, int_beq, splice, alloc1_loc, box1_loc, bld, aFill] | simp (disch := omega) only [shr_u64, shl_u64, and1_u64, fdiv_nn, wrap_i64, wrap_u64, tmod_nn, tdiv_nn, idx_w]))
        -- cont 0: t15=T
        simp only [invQ_normal]
        rw [hI6]
        refine ⟨_, ?_, i + 1, rfl, ?_⟩
        · omega
        · (repeat (first | simp [-invQ_normal, hl, i8_12, i9_13, i10_14, i11_2, hg, c13, wordC, aBin, aUn, pow2_ne, pow2_ne_i, eqCells, eqCell, int_beq, splice, alloc1_loc, box1_loc, bld, aFill] | simp (disch := omega) only [shr_u64, shl_u64, and1_u64, fdiv_nn, wrap_i64, wrap_u64, tmod_nn, tdiv_nn, idx_w])) <;> ((have := sizeI_take (show i < ws.length by assumption); have := popI_le ws[i].2; have := sizeI_le ws i; refine ⟨?_, by omega⟩; rw [wrap_i64 (by omega) (by omega)]; omega))
      · simp only [AVal.raw.injEq, Value.bool.injEq, decide_eq_false_iff_not, decide_eq_true_eq, Bool.not_eq_true, Bool.not_eq_false, Bool.not_eq_eq_eq_not, Bool.not_true, Bool.not_false, Bool.and_eq_true, Bool.or_eq_true, Bool.or_eq_false_iff] at c13
        refine aw_exit ?_
        try simp only [seqQ_normal, seqQ_exit, seqQ_ret, blockQ_normal, blockQ_ret, blockQ_exit, invQ_exit, invQ_ret, endQ_eq, if_true, reduceIte, Nat.reduceEqDiff, reduceCtorEq]
        refine aw_seq (aw_region_q r12_9 ?_)
        (repeat (first | simp [-invQ_normal, l12_9, hl, i8_12, i9_13, i10_14, i11_2, hg, c13, wordC, aBin, aUn, pow2_ne, pow2_ne_i, eqCells, eqCell, int_beq, splice, alloc1_loc, box1_loc, bld, aFill] | simp (disch := omega) only [shr_u64, shl_u64, and1_u64, fdiv_nn, wrap_i64, wrap_u64, tmod_nn, tdiv_nn, idx_w]))
        refine aw_ret (retQ_vals (gs := gs) [.raw (.int .i64 (if goodI (-1) ws then sizeI ws else 0)), .raw (.int .i64 (if goodI (-1) ws then 0 else 8))] (.inr rfl) ?_ (by simp [givenAs, AVal.fixed, rawCell]) (by (repeat (first | simp [-invQ_normal, hl, i8_12, i9_13, i10_14, i11_2, hg, c13, wordC, aBin, aUn, pow2_ne, pow2_ne_i, eqCells, eqCell, int_beq, splice, alloc1_loc, box1_loc, bld, aFill] | simp (disch := omega) only [shr_u64, shl_u64, and1_u64, fdiv_nn, wrap_i64, wrap_u64, tmod_nn, tdiv_nn, idx_w]))) (by rw [← hr0]; first | done | rfl))
        (repeat (first | simp [-invQ_normal, resultOf, hl, i8_12, i9_13, i10_14, i11_2, hg, c13, wordC, aBin, aUn, pow2_ne, pow2_ne_i, eqCells, eqCell, int_beq, splice, alloc1_loc, box1_loc, bld, aFill] | simp (disch := omega) only [shr_u64, shl_u64, and1_u64, fdiv_nn, wrap_i64, wrap_u64, tmod_nn, tdiv_nn, idx_w])) <;> ((rw [List.take_of_length_le (by omega)]; simp_all))
set_option maxHeartbeats 800000 in
theorem ev_Size_ref (ws : List (Int × Int)) (hl : ws.length ≤ 16384) (hb : bits64 ws) (base : Nat) (gs : GS)  : Evals E 13 [.sl (ws.map wordC)] base gs ([.v (.raw (.int .i64 (if goodI (-1) ws then sizeI ws else 0))), .v (.raw (.int .i64 (if goodI (-1) ws then 0 else 8)))], gs) := by
  refine evals_walk 10 #[.tmp 2, .tmp 3] rfl (by kernel_rfl) b13_eq (by kernel_rfl) (by kernel_rfl) (by simp) fun s hs hm => ?_
  have a0 : s.get 0 = .sl (ws.map wordC) := by simpa using hs 0
  have hg : s.m.gs = gs := by rw [hm]
  clear hs
  generalize hr0 : (([.v (.raw (.int .i64 (if goodI (-1) ws then sizeI ws else 0))), .v (.raw (.int .i64 (if goodI (-1) ws then 0 else 8)))], gs) : List RV × GS) = r0
  unfold b13
  refine aw_seq (aw_region_q r13_0 ?_)
  (repeat (first | simp [-invQ_normal, l13_0, a0, hg, hl, wordC, aBin, aUn, pow2_ne, pow2_ne_i, eqCells, eqCell, int_beq, splice, alloc1_loc, box1_loc, bld, aFill] | simp (disch := omega) only [shr_u64, shl_u64, and1_u64, fdiv_nn, wrap_i64, wrap_u64, tmod_nn, tdiv_nn, idx_w]))
  refine aw_seq ?_
  refine aw_seq (aw_region_q r13_1 ?_)
  (repeat (first | simp [-invQ_normal, l13_1, a0, hg, hl, wordC, aBin, aUn, pow2_ne, pow2_ne_i, eqCells, eqCell, int_beq, splice, alloc1_loc, box1_loc, bld, aFill] | simp (disch := omega) only [shr_u64, shl_u64, and1_u64, fdiv_nn, wrap_i64, wrap_u64, tmod_nn, tdiv_nn, idx_w]))
  refine wpC_vals (ev_May _ (by omega) _ _) (by simp) (by simp [isRow]) (by simp) (by first | simp | assumption) (by simp [plainArg, plain1, AVal.shared, AVal.shared.sharedOne, rawCell]) ⟨by simp, ?_⟩
  (repeat (first | simp [-invQ_normal, a0, hg, hl, wordC, aBin, aUn, pow2_ne, pow2_ne_i, eqCells, eqCell, int_beq, splice, alloc1_loc, box1_loc, bld, aFill] | simp (disch := omega) only [shr_u64, shl_u64, and1_u64, fdiv_nn, wrap_i64, wrap_u64, tmod_nn, tdiv_nn, idx_w]))
  refine aw_cond_v ?_
  (repeat (first | simp [-invQ_normal, a0, hg, hl, wordC, aBin, aUn, pow2_ne, pow2_ne_i, eqCells, eqCell, int_beq, splice, alloc1_loc, box1_loc, bld, aFill] | simp (disch := omega) only [shr_u64, shl_u64, and1_u64, fdiv_nn, wrap_i64, wrap_u64, tmod_nn, tdiv_nn, idx_w]))
  refine condV_split ⟨_, rfl⟩ (fun c3 => ?_) (fun c3 => ?_)
  · simp only [AVal.raw.injEq, Value.bool.injEq, decide_eq_false_iff_not, decide_eq_true_eq, Bool.not_eq_true, Bool.not_eq_false, Bool.not_eq_eq_eq_not, Bool.not_true, Bool.not_false, Bool.and_eq_true, Bool.or_eq_true, Bool.or_eq_false_iff] at c3
    refine aw_seq (aw_region_q r13_2 ?_)
    (repeat (first | simp [-invQ_normal, l13_2, a0, hg, hl, c3, wordC, aBin, aUn, pow2_ne, pow2_ne_i, eqCells, eqCell, int_beq, splice, alloc1_loc, box1_loc, bld, aFill] | simp (disch := omega) only [shr_u64, shl_u64, and1_u64, fdiv_nn, wrap_i64, wrap_u64, tmod_nn, tdiv_nn, idx_w]))
    refine aw_ret (retQ_vals (gs := gs) [.raw (.int .i64 (if goodI (-1) ws then sizeI ws else 0)), .raw (.int .i64 (if goodI (-1) ws then 0 else 8))] (.inr rfl) ?_ (by simp [givenAs, AVal.fixed, rawCell]) (by (repeat (first | simp [-invQ_normal, a0, hg, hl, c3, wordC, aBin, aUn, pow2_ne, pow2_ne_i, eqCells, eqCell, int_beq, splice, alloc1_loc, box1_loc, bld, aFill] | simp (disch := omega) only [shr_u64, shl_u64, and1_u64, fdiv_nn, wrap_i64, wrap_u64, tmod_nn, tdiv_nn, idx_w]))) (by rw [← hr0]; first | done | rfl))
    (repeat (first | simp [-invQ_normal, resultOf, a0, hg, hl, c3, wordC, aBin, aUn, pow2_ne, pow2_ne_i, eqCells, eqCell, int_beq, splice, alloc1_loc, box1_loc, bld, aFill] | simp (disch := omega) only [shr_u64, shl_u64, and1_u64, fdiv_nn, wrap_i64, wrap_u64, tmod_nn, tdiv_nn, idx_w])) <;> (simp [sizeI])
  · simp only [AVal.raw.injEq, Value.bool.injEq, decide_eq_false_iff_not, decide_eq_true_eq, Bool.not_eq_true, Bool.not_eq_false, Bool.not_eq_eq_eq_not, Bool.not_true, Bool.not_false, Bool.and_eq_true, Bool.or_eq_true, Bool.or_eq_false_iff] at c3
    refine aw_skip ?_
    try simp only [seqQ_normal, seqQ_exit, seqQ_ret, blockQ_normal, blockQ_ret, blockQ_exit, invQ_exit, invQ_ret, endQ_eq, if_true, reduceIte, Nat.reduceEqDiff, reduceCtorEq]
    refine aw_seq (aw_region_q r13_3 ?_)
    (repeat (first | simp [-invQ_normal, l13_3, a0, hg, hl, c3, wordC, aBin, aUn, pow2_ne, pow2_ne_i, eqCells, eqCell, int_beq, splice, alloc1_loc, box1_loc, bld, aFill] | simp (disch := omega) only [shr_u64, shl_u64, and1_u64, fdiv_nn, wrap_i64, wrap_u64, tmod_nn, tdiv_nn, idx_w]))
    refine wpC_vals (ev_Numbers ws hl hb (good_mem (by assumption)) _ _) (by simp) (by simp [isRow]) (by simp) (by first | simp | assumption) (by simp [plainArg, plain1, AVal.shared, AVal.shared.sharedOne, rawCell]) ⟨by simp, ?_⟩
    (repeat (first | simp [-invQ_normal, a0, hg, hl, c3, wordC, aBin, aUn, pow2_ne, pow2_ne_i, eqCells, eqCell, int_beq, splice, alloc1_loc, box1_loc, bld, aFill] | simp (disch := omega) only [shr_u64, shl_u64, and1_u64, fdiv_nn, wrap_i64, wrap_u64, tmod_nn, tdiv_nn, idx_w]))
    refine aw_ret (retQ_vals (gs := gs) [.raw (.int .i64 (if goodI (-1) ws then sizeI ws else 0)), .raw (.int .i64 (if goodI (-1) ws then 0 else 8))] (.inr rfl) ?_ (by simp [givenAs, AVal.fixed, rawCell]) (by (repeat (first | simp [-invQ_normal, a0, hg, hl, c3, wordC, aBin, aUn, pow2_ne, pow2_ne_i, eqCells, eqCell, int_beq, splice, alloc1_loc, box1_loc, bld, aFill] | simp (disch := omega) only [shr_u64, shl_u64, and1_u64, fdiv_nn, wrap_i64, wrap_u64, tmod_nn, tdiv_nn, idx_w]))) (by rw [← hr0]; first | done | rfl))
    (repeat (first | simp [-invQ_normal, resultOf, a0, hg, hl, c3, wordC, aBin, aUn, pow2_ne, pow2_ne_i, eqCells, eqCell, int_beq, splice, alloc1_loc, box1_loc, bld, aFill] | simp (disch := omega) only [shr_u64, shl_u64, and1_u64, fdiv_nn, wrap_i64, wrap_u64, tmod_nn, tdiv_nn, idx_w])) <;> (simp [sizeI])
set_option maxHeartbeats 800000 in
theorem ev_List_ref (ws : List (Int × Int)) (hl : ws.length ≤ 16384) (hb : bits64 ws) (base : Nat) (gs : GS)  : Evals E 9 [.sl (ws.map wordC)] base gs ([.v (.sl (intsL (listI ws))), .v (.raw (.int .i64 (if goodI (-1) ws then 0 else 8)))], gs) := by
  refine evals_walk 9 #[.tmp 2, .tmp 3] rfl (by kernel_rfl) b9_eq (by kernel_rfl) (by kernel_rfl) (by simp) fun s hs hm => ?_
  have a0 : s.get 0 = .sl (ws.map wordC) := by simpa using hs 0
  have hg : s.m.gs = gs := by rw [hm]
  clear hs
  generalize hr0 : (([.v (.sl (intsL (listI ws))), .v (.raw (.int .i64 (if goodI (-1) ws then 0 else 8)))], gs) : List RV × GS) = r0
  unfold b9
  refine aw_seq (aw_region_q r9_0 ?_)
  (repeat (first | simp [-invQ_normal, l9_0, a0, hg, hl, wordC, aBin, aUn, pow2_ne, pow2_ne_i, eqCells, eqCell, int_beq, splice, alloc1_loc, box1_loc, bld, aFill] | simp (disch := omega) only [shr_u64, shl_u64, and1_u64, fdiv_nn, wrap_i64, wrap_u64, tmod_nn, tdiv_nn, idx_w]))
  refine aw_seq ?_
  refine aw_seq (aw_region_q r9_1 ?_)
  (repeat (first | simp [-invQ_normal, l9_1, a0, hg, hl, wordC, aBin, aUn, pow2_ne, pow2_ne_i, eqCells, eqCell, int_beq, splice, alloc1_loc, box1_loc, bld, aFill] | simp (disch := omega) only [shr_u64, shl_u64, and1_u64, fdiv_nn, wrap_i64, wrap_u64, tmod_nn, tdiv_nn, idx_w]))
  refine wpC_vals (ev_May _ (by omega) _ _) (by simp) (by simp [isRow]) (by simp) (by first | simp | assumption) (by simp [plainArg, plain1, AVal.shared, AVal.shared.sharedOne, rawCell]) ⟨by simp, ?_⟩
  (repeat (first | simp [-invQ_normal, a0, hg, hl, wordC, aBin, aUn, pow2_ne, pow2_ne_i, eqCells, eqCell, int_beq, splice, alloc1_loc, box1_loc, bld, aFill] | simp (disch := omega) only [shr_u64, shl_u64, and1_u64, fdiv_nn, wrap_i64, wrap_u64, tmod_nn, tdiv_nn, idx_w]))
  refine aw_cond_v ?_
  (repeat (first | simp [-invQ_normal, a0, hg, hl, wordC, aBin, aUn, pow2_ne, pow2_ne_i, eqCells, eqCell, int_beq, splice, alloc1_loc, box1_loc, bld, aFill] | simp (disch := omega) only [shr_u64, shl_u64, and1_u64, fdiv_nn, wrap_i64, wrap_u64, tmod_nn, tdiv_nn, idx_w]))
  refine condV_split ⟨_, rfl⟩ (fun c3 => ?_) (fun c3 => ?_)
  · simp only [AVal.raw.injEq, Value.bool.injEq, decide_eq_false_iff_not, decide_eq_true_eq, Bool.not_eq_true, Bool.not_eq_false, Bool.not_eq_eq_eq_not, Bool.not_true, Bool.not_false, Bool.and_eq_true, Bool.or_eq_true, Bool.or_eq_false_iff] at c3
    refine aw_seq (aw_region_q r9_2 ?_)
    (repeat (first | simp [-invQ_normal, l9_2, a0, hg, hl, c3, wordC, aBin, aUn, pow2_ne, pow2_ne_i, eqCells, eqCell, int_beq, splice, alloc1_loc, box1_loc, bld, aFill] | simp (disch := omega) only [shr_u64, shl_u64, and1_u64, fdiv_nn, wrap_i64, wrap_u64, tmod_nn, tdiv_nn, idx_w]))
    refine aw_ret (retQ_ok (gs := gs) [.e0, .raw (.int .i64 8)] (.inr rfl) ?_ (by simp [givenOk, givenAs, AVal.fixed, rawCell]) (by (repeat (first | simp [-invQ_normal, a0, hg, hl, c3, wordC, aBin, aUn, pow2_ne, pow2_ne_i, eqCells, eqCell, int_beq, splice, alloc1_loc, box1_loc, bld, aFill] | simp (disch := omega) only [shr_u64, shl_u64, and1_u64, fdiv_nn, wrap_i64, wrap_u64, tmod_nn, tdiv_nn, idx_w]))) (hr0.symm.trans ?_))
    · (repeat (first | simp [-invQ_normal, resultOf, a0, hg, hl, c3, wordC, aBin, aUn, pow2_ne, pow2_ne_i, eqCells, eqCell, int_beq, splice, alloc1_loc, box1_loc, bld, aFill] | simp (disch := omega) only [shr_u64, shl_u64, and1_u64, fdiv_nn, wrap_i64, wrap_u64, tmod_nn, tdiv_nn, idx_w]))
    · simp [*, givenV, listI, intsL]
  · simp only [AVal.raw.injEq, Value.bool.injEq, decide_eq_false_iff_not, decide_eq_true_eq, Bool.not_eq_true, Bool.not_eq_false, Bool.not_eq_eq_eq_not, Bool.not_true, Bool.not_false, Bool.and_eq_true, Bool.or_eq_true, Bool.or_eq_false_iff] at c3
    refine aw_skip ?_
    try simp only [seqQ_normal, seqQ_exit, seqQ_ret, blockQ_normal, blockQ_ret, blockQ_exit, invQ_exit, invQ_ret, endQ_eq, if_true, reduceIte, Nat.reduceEqDiff, reduceCtorEq]
    refine aw_seq (aw_region_q r9_3 ?_)
    (repeat (first | simp [-invQ_normal, l9_3, a0, hg, hl, c3, wordC, aBin, aUn, pow2_ne, pow2_ne_i, eqCells, eqCell, int_beq, splice, alloc1_loc, box1_loc, bld, aFill] | simp (disch := omega) only [shr_u64, shl_u64, and1_u64, fdiv_nn, wrap_i64, wrap_u64, tmod_nn, tdiv_nn, idx_w]))
    refine wpC_vals (ev_Numbers ws hl hb (good_mem (by assumption)) _ _) (by simp) (by simp [isRow]) (by simp) (by first | simp | assumption) (by simp [plainArg, plain1, AVal.shared, AVal.shared.sharedOne, rawCell]) ⟨by simp, ?_⟩
    (repeat (first | simp [-invQ_normal, a0, hg, hl, c3, wordC, aBin, aUn, pow2_ne, pow2_ne_i, eqCells, eqCell, int_beq, splice, alloc1_loc, box1_loc, bld, aFill] | simp (disch := omega) only [shr_u64, shl_u64, and1_u64, fdiv_nn, wrap_i64, wrap_u64, tmod_nn, tdiv_nn, idx_w]))
    refine aw_ret (retQ_vals (gs := gs) [.sl (intsL (listI ws)), .raw (.int .i64 (if goodI (-1) ws then 0 else 8))] (.inr rfl) ?_ (by simp [givenAs, AVal.fixed, rawCell]) (by (repeat (first | simp [-invQ_normal, a0, hg, hl, c3, wordC, aBin, aUn, pow2_ne, pow2_ne_i, eqCells, eqCell, int_beq, splice, alloc1_loc, box1_loc, bld, aFill] | simp (disch := omega) only [shr_u64, shl_u64, and1_u64, fdiv_nn, wrap_i64, wrap_u64, tmod_nn, tdiv_nn, idx_w]))) (by rw [← hr0]; first | done | rfl))
    (repeat (first | simp [-invQ_normal, resultOf, a0, hg, hl, c3, wordC, aBin, aUn, pow2_ne, pow2_ne_i, eqCells, eqCell, int_beq, splice, alloc1_loc, box1_loc, bld, aFill] | simp (disch := omega) only [shr_u64, shl_u64, and1_u64, fdiv_nn, wrap_i64, wrap_u64, tmod_nn, tdiv_nn, idx_w])) <;> (simp [*, listI])
set_option maxHeartbeats 800000 in
theorem ev_Equal (a b : List (Int × Int)) (hl : a.length < 2 ^ 63) (base : Nat) (gs : GS)  : Evals E 34 [.sl (a.map wordC), .sl (b.map wordC)] base gs ([.v (.raw (.bool (decide (a = b))))], gs) := by
  refine evals_walk 26 #[.tmp 4] rfl (by kernel_rfl) b34_eq (by kernel_rfl) (by kernel_rfl) (by simp) fun s hs hm => ?_
  have a0 : s.get 0 = .sl (a.map wordC) := by simpa using hs 0
  have a1 : s.get 1 = .sl (b.map wordC) := by simpa using hs 1
  have hg : s.m.gs = gs := by rw [hm]
  clear hs
  generalize hr0 : (([.v (.raw (.bool (decide (a = b))))], gs) : List RV × GS) = r0
  unfold b34
  refine aw_seq (aw_region_q r34_0 ?_)
  (repeat (first | simp [-invQ_normal, l34_0, a0, a1, hg, hl, wordC, aBin, aUn, pow2_ne, pow2_ne_i, eqCells, eqCell, int_beq, splice, alloc1_loc, box1_loc, bld, aFill] | simp (disch := omega) only [shr_u64, shl_u64, and1_u64, fdiv_nn, wrap_i64, wrap_u64, tmod_nn, tdiv_nn, idx_w]))
  refine aw_seq ?_
  refine aw_seq (aw_region_q r34_1 ?_)
  (repeat (first | simp [-invQ_normal, l34_1, a0, a1, hg, hl, wordC, aBin, aUn, pow2_ne, pow2_ne_i, eqCells, eqCell, int_beq, splice, alloc1_loc, box1_loc, bld, aFill] | simp (disch := omega) only [shr_u64, shl_u64, and1_u64, fdiv_nn, wrap_i64, wrap_u64, tmod_nn, tdiv_nn, idx_w]))
  refine aw_cond_v ?_
  (repeat (first | simp [-invQ_normal, a0, a1, hg, hl, wordC, aBin, aUn, pow2_ne, pow2_ne_i, eqCells, eqCell, int_beq, splice, alloc1_loc, box1_loc, bld, aFill] | simp (disch := omega) only [shr_u64, shl_u64, and1_u64, fdiv_nn, wrap_i64, wrap_u64, tmod_nn, tdiv_nn, idx_w]))
  refine condV_split ⟨_, rfl⟩ (fun c1 => ?_) (fun c1 => ?_)
  · simp only [AVal.raw.injEq, Value.bool.injEq, decide_eq_false_iff_not, decide_eq_true_eq, Bool.not_eq_true, Bool.not_eq_false, Bool.not_eq_eq_eq_not, Bool.not_true, Bool.not_false, Bool.and_eq_true, Bool.or_eq_true, Bool.or_eq_false_iff] at c1
    refine aw_seq (aw_region_q r34_2 ?_)
    (repeat (first | simp [-invQ_normal, l34_2, a0, a1, hg, hl, c1, wordC, aBin, aUn, pow2_ne, pow2_ne_i, eqCells, eqCell, int_beq, splice, alloc1_loc, box1_loc, bld, aFill] | simp (disch := omega) only [shr_u64, shl_u64, and1_u64, fdiv_nn, wrap_i64, wrap_u64, tmod_nn, tdiv_nn, idx_w]))
    refine aw_ret (retQ_vals (gs := gs) [.raw (.bool (decide (a = b)))] (.inr rfl) ?_ (by simp [givenAs, AVal.fixed, rawCell]) (by (repeat (first | simp [-invQ_normal, a0, a1, hg, hl, c1, wordC, aBin, aUn, pow2_ne, pow2_ne_i, eqCells, eqCell, int_beq, splice, alloc1_loc, box1_loc, bld, aFill] | simp (disch := omega) only [shr_u64, shl_u64, and1_u64, fdiv_nn, wrap_i64, wrap_u64, tmod_nn, tdiv_nn, idx_w]))) (by rw [← hr0]; first | done | rfl))
    (repeat (first | simp [-invQ_normal, resultOf, a0, a1, hg, hl, c1, wordC, aBin, aUn, pow2_ne, pow2_ne_i, eqCells, eqCell, int_beq, splice, alloc1_loc, box1_loc, bld, aFill] | simp (disch := omega) only [shr_u64, shl_u64, and1_u64, fdiv_nn, wrap_i64, wrap_u64, tmod_nn, tdiv_nn, idx_w])) <;> (exact fun e => absurd (congrArg (fun l : List (Int × Int) => (l.length : Int)) e) (by assumption))
  · simp only [AVal.raw.injEq, Value.bool.injEq, decide_eq_false_iff_not, decide_eq_true_eq, Bool.not_eq_true, Bool.not_eq_false, Bool.not_eq_eq_eq_not, Bool.not_true, Bool.not_false, Bool.and_eq_true, Bool.or_eq_true, Bool.or_eq_false_iff] at c1
    refine aw_skip ?_
    try simp only [seqQ_normal, seqQ_exit, seqQ_ret, blockQ_normal, blockQ_ret, blockQ_exit, invQ_exit, invQ_ret, endQ_eq, if_true, reduceIte, Nat.reduceEqDiff, reduceCtorEq]
    refine aw_seq ?_
    refine aw_seq (aw_region_q r34_3 ?_)
    (repeat (first | simp [-invQ_normal, l34_3, a0, a1, hg, hl, c1, wordC, aBin, aUn, pow2_ne, pow2_ne_i, eqCells, eqCell, int_beq, splice, alloc1_loc, box1_loc, bld, aFill] | simp (disch := omega) only [shr_u64, shl_u64, and1_u64, fdiv_nn, wrap_i64, wrap_u64, tmod_nn, tdiv_nn, idx_w]))
    refine aw_block ?_
    obtain ⟨I3, hI3⟩ : ∃ I : Nat → St → Prop, I = fun k s => ∃ (i : Nat), k = a.length - i ∧ s.get 0 = .sl (a.map wordC) ∧ s.get 1 = .sl (b.map wordC) ∧ s.get 12 = .raw (.int .i64 a.length) ∧ s.get 13 = .raw (.int .i64 i) ∧ s.m.gs = gs ∧ (i ≤ a.length) ∧ (a.take i = b.take i) ∧ (a.length = b.length) := ⟨_, rfl⟩
    refine aw_inv2 I3 ?_ ?_
    · rw [hI3]
      refine ⟨_, 0, rfl, ?_⟩
      (repeat (first | simp [-invQ_normal, a0, a1, hg, hl, c1, wordC, aBin, aUn, pow2_ne, pow2_ne_i, eqCells, eqCell, int_beq, splice, alloc1_loc, box1_loc, bld, aFill] | simp (disch := omega) only [shr_u64, shl_u64, and1_u64, fdiv_nn, wrap_i64, wrap_u64, tmod_nn, tdiv_nn, idx_w])) <;> (omega)
    · intro k s hI0
      rw [hI3] at hI0
      obtain ⟨i, k4, i5_0, i6_1, i7_12, i8_13, hg, hi, he, hle⟩ := hI0
      unfold b34_L0
      refine aw_seq (aw_region_q r34_4 ?_)
      (repeat (first | simp [-invQ_normal, l34_4, hl, i5_0, i6_1, i7_12, i8_13, hg, wordC, aBin, aUn, pow2_ne, pow2_ne_i, eqCells, eqCell, int_beq, splice, alloc1_loc, box1_loc, bld, aFill] | simp (disch := omega) only [shr_u64, shl_u64, and1_u64, fdiv_nn, wrap_i64, wrap_u64, tmod_nn, tdiv_nn, idx_w]))
      refine aw_seq ?_
      refine aw_cond_v ?_
      (repeat (first | simp [-invQ_normal, hl, i5_0, i6_1, i7_12, i8_13, hg, wordC, aBin, aUn, pow2_ne, pow2_ne_i, eqCells, eqCell, int_beq, splice, alloc1_loc, box1_loc, bld, aFill] | simp (disch := omega) only [shr_u64, shl_u64, and1_u64, fdiv_nn, wrap_i64, wrap_u64, tmod_nn, tdiv_nn, idx_w]))
      refine condV_split ⟨_, rfl⟩ (fun c12 => ?_) (fun c12 => ?_)
      · simp only [AVal.raw.injEq, Value.bool.injEq, decide_eq_false_iff_not, decide_eq_true_eq, Bool.not_eq_true, Bool.not_eq_false, Bool.not_eq_eq_eq_not, Bool.not_true, Bool.not_false, Bool.and_eq_true, Bool.or_eq_true, Bool.or_eq_false_iff] at c12
        refine aw_skip ?_
        try simp only [seqQ_normal, seqQ_exit, seqQ_ret, blockQ_normal, blockQ_ret, blockQ_exit, invQ_exit, invQ_ret, endQ_eq, if_true, reduceIte, Nat.reduceEqDiff, reduceCtorEq]
        refine aw_seq ?_
        refine aw_block ?_
        refine aw_seq (aw_region_q r34_5 ?_)
        (repeat (first | simp [-invQ_normal, l34_5, hl, i5_0, i6_1, i7_12, i8_13, hg, c12, wordC, aBin, aUn, pow2_ne, pow2_ne_i, eqCells, eqCell, int_beq, splice, alloc1_loc, box1_loc, bld, aFill] | simp (disch := omega) only [shr_u64, shl_u64, and1_u64, fdiv_nn, wrap_i64, wrap_u64, tmod_nn, tdiv_nn, idx_w]))
        refine aw_seq (aw_region_d r34_6 ?_)
        (repeat (first | simp [-invQ_normal, l34_6, hl, i5_0, i6_1, i7_12, i8_13, hg, c12, wordC, aBin, aUn, pow2_ne, pow2_ne_i, eqCells, eqCell, int_beq, splice, alloc1_loc, box1_loc, bld, aFill] | simp (disch := omega) only [shr_u64, shl_u64, and1_u64, fdiv_nn, wrap_i64, wrap_u64, tmod_nn, tdiv_nn, idx_w]))
        refine aw_cond_v ?_
        (repeat (first | simp [-invQ_normal, hl, i5_0, i6_1, i7_12, i8_13, hg, c12, wordC, aBin, aUn, pow2_ne, pow2_ne_i, eqCells, eqCell, int_beq, splice, alloc1_loc, box1_loc, bld, aFill] | simp (disch := omega) only [shr_u64, shl_u64, and1_u64, fdiv_nn, wrap_i64, wrap_u64, tmod_nn, tdiv_nn, idx_w]))
        refine condV_split ⟨_, rfl⟩ (fun c13 => ?_) (fun c13 => ?_)
        · simp only [AVal.raw.injEq, Value.bool.injEq, decide_eq_false_iff_not, decide_eq_true_eq, Bool.not_eq_true, Bool.not_eq_false, Bool.not_eq_eq_eq_not, Bool.not_true, Bool.not_false, Bool.and_eq_true, Bool.or_eq_true, Bool.or_eq_false_iff] at c13
          refine aw_seq (aw_region_q r34_7 ?_)
          (repeat (first | simp [-invQ_normal, l34_7, hl, i5_0, i6_1, i7_12, i8_13, hg, c12, c13, wordC, aBin, aUn, pow2_ne, pow2_ne_i, eqCells, eqCell, int_beq, splice, alloc1_loc, box1_loc, bld, aFill] | simp (disch := omega) only [shr_u64, shl_u64, and1_u64, fdiv_nn, wrap_i64, wrap_u64, tmod_nn, tdiv_nn, idx_w]))
          refine aw_ret (retQ_vals (gs := gs) [.raw (.bool (decide (a = b)))] (.inr rfl) ?_ (by simp [givenAs, AVal.fixed, rawCell]) (by (repeat (first | simp [-invQ_normal, hl, i5_0, i6_1, i7_12, i8_13, hg, c12, c13, wordC, aBin, aUn, pow2_ne, pow2_ne_i, eqCells, eqCell, int_beq, splice, alloc1_loc, box1_loc, bld, aFill] | simp (disch := omega) only [shr_u64, shl_u64, and1_u64, fdiv_nn, wrap_i64, wrap_u64, tmod_nn, tdiv_nn, idx_w]))) (by rw [← hr0]; first | done | rfl))
          (repeat (first | simp [-invQ_normal, resultOf, hl, i5_0, i6_1, i7_12, i8_13, hg, c12, c13, wordC, aBin, aUn, pow2_ne, pow2_ne_i, eqCells, eqCell, int_beq, splice, alloc1_loc, box1_loc, bld, aFill] | simp (disch := omega) only [shr_u64, shl_u64, and1_u64, fdiv_nn, wrap_i64, wrap_u64, tmod_nn, tdiv_nn, idx_w])) <;> ((intro e; subst e; simp_all))
        · simp only [AVal.raw.injEq, Value.bool.injEq, decide_eq_false_iff_not, decide_eq_true_eq, Bool.not_eq_true, Bool.not_eq_false, Bool.not_eq_eq_eq_not, Bool.not_true, Bool.not_false, Bool.and_eq_true, Bool.or_eq_true, Bool.or_eq_false_iff] at c13
          refine aw_skip ?_
          try simp only [seqQ_normal, seqQ_exit, seqQ_ret, blockQ_normal, blockQ_ret, blockQ_exit, invQ_exit, invQ_ret, endQ_eq, if_true, reduceIte, Nat.reduceEqDiff, reduceCtorEq]
          refine aw_region_q r34_8 ?_
          (repeat (first | simp [-invQ_normal, l34_8, hl, i5_0, i6_1, i7_12, i8_13, hg, c12, c13, wordC, aBin, aUn, pow2_ne, pow2_ne_i, eqCells, eqCell, int_beq, splice, alloc1_loc, box1_loc, bld, aFill] | simp (disch := omega) only [shr_u64, shl_u64, and1_u64, fdiv_nn, wrap_i64, wrap_u64, tmod_nn, tdiv_nn, idx_w]))
          -- cont 0: t14=T t24=F
          simp only [invQ_normal]
          rw [hI3]
          refine ⟨_, ?_, i + 1, rfl, ?_⟩
          · omega
          · (repeat (first | simp [-invQ_normal, hl, i5_0, i6_1, i7_12, i8_13, hg, c12, c13, wordC, aBin, aUn, pow2_ne, pow2_ne_i, eqCells, eqCell, int_beq, splice, alloc1_loc, box1_loc, bld, aFill] | simp (disch := omega) only [shr_u64, shl_u64, and1_u64, fdiv_nn, wrap_i64, wrap_u64, tmod_nn, tdiv_nn, idx_w])) <;> (exact ⟨by omega, take_step (by assumption) (by omega) (by first | assumption | (apply Prod.ext <;> simp_all)) he, hle⟩)
      · simp only [AVal.raw.injEq, Value.bool.injEq, decide_eq_false_iff_not, decide_eq_true_eq, Bool.not_eq_true, Bool.not_eq_false, Bool.not_eq_eq_eq_not, Bool.not_true, Bool.not_false, Bool.and_eq_true, Bool.or_eq_true, Bool.or_eq_false_iff] at c12
        refine aw_exit ?_
        try simp only [seqQ_normal, seqQ_exit, seqQ_ret, blockQ_normal, blockQ_ret, blockQ_exit, invQ_exit, invQ_ret, endQ_eq, if_true, reduceIte, Nat.reduceEqDiff, reduceCtorEq]
        refine aw_seq (aw_region_q r34_9 ?_)
        (repeat (first | simp [-invQ_normal, l34_9, hl, i5_0, i6_1, i7_12, i8_13, hg, c12, wordC, aBin, aUn, pow2_ne, pow2_ne_i, eqCells, eqCell, int_beq, splice, alloc1_loc, box1_loc, bld, aFill] | simp (disch := omega) only [shr_u64, shl_u64, and1_u64, fdiv_nn, wrap_i64, wrap_u64, tmod_nn, tdiv_nn, idx_w]))
        refine aw_ret (retQ_vals (gs := gs) [.raw (.bool (decide (a = b)))] (.inr rfl) ?_ (by simp [givenAs, AVal.fixed, rawCell]) (by (repeat (first | simp [-invQ_normal, hl, i5_0, i6_1, i7_12, i8_13, hg, c12, wordC, aBin, aUn, pow2_ne, pow2_ne_i, eqCells, eqCell, int_beq, splice, alloc1_loc, box1_loc, bld, aFill] | simp (disch := omega) only [shr_u64, shl_u64, and1_u64, fdiv_nn, wrap_i64, wrap_u64, tmod_nn, tdiv_nn, idx_w]))) (by rw [← hr0]; first | done | rfl))
        (repeat (first | simp [-invQ_normal, resultOf, hl, i5_0, i6_1, i7_12, i8_13, hg, c12, wordC, aBin, aUn, pow2_ne, pow2_ne_i, eqCells, eqCell, int_beq, splice, alloc1_loc, box1_loc, bld, aFill] | simp (disch := omega) only [shr_u64, shl_u64, and1_u64, fdiv_nn, wrap_i64, wrap_u64, tmod_nn, tdiv_nn, idx_w])) <;> (exact take_end (by assumption) hle he)
set_option maxHeartbeats 800000 in
theorem ev_Same (a b : List (Int × Int)) (hl : a.length < 2 ^ 63) (base : Nat) (gs : GS)  : Evals E 17 [.sl (a.map wordC), .sl (b.map wordC)] base gs ([.v (.raw (.bool (decide (a = b))))], gs) := by
  refine evals_walk 8 #[.tmp 4] rfl (by kernel_rfl) b17_eq (by kernel_rfl) (by kernel_rfl) (by simp) fun s hs hm => ?_
  have a0 : s.get 0 = .sl (a.map wordC) := by simpa using hs 0
  have a1 : s.get 1 = .sl (b.map wordC) := by simpa using hs 1
  have hg : s.m.gs = gs := by rw [hm]
  clear hs
  generalize hr0 : (([.v (.raw (.bool (decide (a = b))))], gs) : List RV × GS) = r0
  unfold b17
  refine aw_seq (aw_region_q r17_0 ?_)
  (repeat (first | simp [-invQ_normal, l17_0, a0, a1, hg, wordC, aBin, aUn, pow2_ne, pow2_ne_i, eqCells, eqCell, int_beq, splice, alloc1_loc, box1_loc, bld, aFill] | simp (disch := omega) only [shr_u64, shl_u64, and1_u64, fdiv_nn, wrap_i64, wrap_u64, tmod_nn, tdiv_nn, idx_w]))
  refine aw_seq (aw_region_q r17_1 ?_)
  (repeat (first | simp [-invQ_normal, l17_1, a0, a1, hg, wordC, aBin, aUn, pow2_ne, pow2_ne_i, eqCells, eqCell, int_beq, splice, alloc1_loc, box1_loc, bld, aFill] | simp (disch := omega) only [shr_u64, shl_u64, and1_u64, fdiv_nn, wrap_i64, wrap_u64, tmod_nn, tdiv_nn, idx_w]))
  refine wpC_vals (ev_Equal a b hl _ _) (by simp) (by simp [isRow]) (by simp) (by first | simp | assumption) (by simp [plainArg, plain1, AVal.shared, AVal.shared.sharedOne, rawCell]) ⟨by simp, ?_⟩
  (repeat (first | simp [-invQ_normal, a0, a1, hg, wordC, aBin, aUn, pow2_ne, pow2_ne_i, eqCells, eqCell, int_beq, splice, alloc1_loc, box1_loc, bld, aFill] | simp (disch := omega) only [shr_u64, shl_u64, and1_u64, fdiv_nn, wrap_i64, wrap_u64, tmod_nn, tdiv_nn, idx_w]))
  refine aw_ret (retQ_vals (gs := gs) [.raw (.bool (decide (a = b)))] (.inr rfl) ?_ (by simp [givenAs, AVal.fixed, rawCell]) (by (repeat (first | simp [-invQ_normal, a0, a1, hg, wordC, aBin, aUn, pow2_ne, pow2_ne_i, eqCells, eqCell, int_beq, splice, alloc1_loc, box1_loc, bld, aFill] | simp (disch := omega) only [shr_u64, shl_u64, and1_u64, fdiv_nn, wrap_i64, wrap_u64, tmod_nn, tdiv_nn, idx_w]))) (by rw [← hr0]; first | done | rfl))
  (repeat (first | simp [-invQ_normal, resultOf, a0, a1, hg, wordC, aBin, aUn, pow2_ne, pow2_ne_i, eqCells, eqCell, int_beq, splice, alloc1_loc, box1_loc, bld, aFill] | simp (disch := omega) only [shr_u64, shl_u64, and1_u64, fdiv_nn, wrap_i64, wrap_u64, tmod_nn, tdiv_nn, idx_w]))

end Go.Proofs.YtjcgaelibiiiiaaDoor
