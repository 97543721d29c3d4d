/-
  WALKS over the abstract interpreter: comparisons, bits.List by its contract, fescuelaw02.BitsTells. Printed by this seat's own program (genwalk.py) out of door3.py.
-/
import Derived.Test.YtjcgaelibiiiiaaDoorW2
set_option linter.unusedVariables false
set_option linter.unusedSimpArgs false
namespace Go.Proofs.YtjcgaelibiiiiaaDoor
open Go.Abs

theorem app_w {l : List (Int × Int)} {base key : Nat} {glob : Bool} {m : Mem} (h : l.length ≤ 1000000) : aAppend E base glob true key m 52 .e0 (.sl (l.map wordC)) = some (.sl (l.map wordC), none) :=
  aAppend_pure (e_E_size_52 _) (e_E_bytes_52 _) (e_E_zero_52 _) rfl (by decide) (by decide) wordC_len (fun _ => by simp [wordC]) (by omega)
theorem idx_i {l : List Int} {k : IntKind} {z : Int} {m : Mem} (h0 : 0 ≤ z) (h : z < l.length) : idx E m 24 (.sl (intsL l)) (.raw (.int k z)) = some (.ip [.raw (.int .i64 (l[z.toNat]'(by omega)))], none) :=
  idx_map (enc := fun z => [AVal.raw (.int .i64 z)]) (e_E_under_24 _) (e_E_size_3 _) h0 h (fun _ => rfl) (by decide)
theorem words_map (ws : List (Int × Int)) : words (ws.map wordC) = some ws := by
  induction ws with
  | nil => rfl
  | cons p l ih => rw [List.map_cons]; show (words (l.map wordC)).map ((p.1, p.2) :: ·) = _; rw [ih]; rfl
theorem ev_List (ws : List (Int × Int)) (hl : ws.length ≤ 16384) (hb : bits64 ws) (base : Nat) (gs : GS) : Evals E 8 [.sl (ws.map wordC)] base gs ([.v (.sl (intsL (listI ws))), .v (.raw (.int .i64 (if goodI (-1) ws then 0 else 8)))], gs) := by
  refine ⟨1, ?_⟩
  have he : E.ext 8 = some listF := by kernel_rfl
  unfold call
  simp only [he]
  unfold listF
  simp only [words_map, Option.bind_some]
  have h1 : (ws.all fun p => decide (0 ≤ p.2) && decide (p.2 < 18446744073709551616)) = true := List.all_eq_true.2 fun p hp => by have := hb p hp; simp [this]
  cases hg : goodI (-1) ws with
  | true => simp [h1, hl, intsL, listI, hg]
  | false => simp [listI, hg, intsL]; omega

set_option maxHeartbeats 800000 in
theorem ev_SameInts (a b : List Int) (hl : a.length < 2 ^ 63) (base : Nat) (gs : GS)  : Evals E 14 [.sl (intsL a), .sl (intsL b)] base gs ([.v (.raw (.bool (decide (a = b))))], gs) := by
  refine evals_walk 26 #[.tmp 4] rfl (by kernel_rfl) b14_eq (by kernel_rfl) (by kernel_rfl) (by simp) fun s hs hm => ?_
  have a0 : s.get 0 = .sl (intsL a) := by simpa using hs 0
  have a1 : s.get 1 = .sl (intsL b) := by simpa using hs 1
  have hg : s.m.gs = gs := by rw [hm]
  clear hs
  generalize hr0 : (([.v (.raw (.bool (decide (a = b))))], gs) : List RV × GS) = r0
  unfold b14
  refine aw_seq (aw_region_q r14_0 ?_)
  (repeat (first | simp [-invQ_normal, l14_0, a0, a1, hg, hl, wordC, aBin, aUn, pow2_ne, pow2_ne_i, eqCells, eqCell, int_beq, splice, alloc1_loc, box1_loc, bld, aFill] | simp (disch := omega) only [wrap_i64, wrap_u64, tmod_nn, tdiv_nn, idx_w, idx_i, app_w]))
  refine aw_seq ?_
  refine aw_seq (aw_region_q r14_1 ?_)
  (repeat (first | simp [-invQ_normal, l14_1, a0, a1, hg, hl, wordC, aBin, aUn, pow2_ne, pow2_ne_i, eqCells, eqCell, int_beq, splice, alloc1_loc, box1_loc, bld, aFill] | simp (disch := omega) only [wrap_i64, wrap_u64, tmod_nn, tdiv_nn, idx_w, idx_i, app_w]))
  refine aw_cond_v ?_
  (repeat (first | simp [-invQ_normal, a0, a1, hg, hl, wordC, aBin, aUn, pow2_ne, pow2_ne_i, eqCells, eqCell, int_beq, splice, alloc1_loc, box1_loc, bld, aFill] | simp (disch := omega) only [wrap_i64, wrap_u64, tmod_nn, tdiv_nn, idx_w, idx_i, app_w]))
  refine condV_split ⟨_, rfl⟩ (fun c1 => ?_) (fun c1 => ?_)
  · simp only [AVal.raw.injEq, Value.bool.injEq, decide_eq_false_iff_not, decide_eq_true_eq, Bool.not_eq_true, Bool.not_eq_false, Bool.not_eq_eq_eq_not, Bool.not_true, Bool.not_false, Bool.and_eq_true, Bool.or_eq_true, Bool.or_eq_false_iff] at c1
    refine aw_seq (aw_region_q r14_2 ?_)
    (repeat (first | simp [-invQ_normal, l14_2, a0, a1, hg, hl, c1, wordC, aBin, aUn, pow2_ne, pow2_ne_i, eqCells, eqCell, int_beq, splice, alloc1_loc, box1_loc, bld, aFill] | simp (disch := omega) only [wrap_i64, wrap_u64, tmod_nn, tdiv_nn, idx_w, idx_i, app_w]))
    refine aw_ret (retQ_vals (gs := gs) [.raw (.bool (decide (a = b)))] (.inr rfl) ?_ (by simp [givenAs, AVal.fixed, rawCell]) (by (repeat (first | simp [-invQ_normal, a0, a1, hg, hl, c1, wordC, aBin, aUn, pow2_ne, pow2_ne_i, eqCells, eqCell, int_beq, splice, alloc1_loc, box1_loc, bld, aFill] | simp (disch := omega) only [wrap_i64, wrap_u64, tmod_nn, tdiv_nn, idx_w, idx_i, app_w]))) (by rw [← hr0]; first | done | rfl))
    (repeat (first | simp [-invQ_normal, resultOf, a0, a1, hg, hl, c1, wordC, aBin, aUn, pow2_ne, pow2_ne_i, eqCells, eqCell, int_beq, splice, alloc1_loc, box1_loc, bld, aFill] | simp (disch := omega) only [wrap_i64, wrap_u64, tmod_nn, tdiv_nn, idx_w, idx_i, app_w])) <;> (exact fun e => absurd (congrArg (fun l : List Int => (l.length : Int)) e) (by assumption))
  · simp only [AVal.raw.injEq, Value.bool.injEq, decide_eq_false_iff_not, decide_eq_true_eq, Bool.not_eq_true, Bool.not_eq_false, Bool.not_eq_eq_eq_not, Bool.not_true, Bool.not_false, Bool.and_eq_true, Bool.or_eq_true, Bool.or_eq_false_iff] at c1
    refine aw_skip ?_
    try simp only [seqQ_normal, seqQ_exit, seqQ_ret, blockQ_normal, blockQ_ret, blockQ_exit, invQ_exit, invQ_ret, endQ_eq, if_true, reduceIte, Nat.reduceEqDiff, reduceCtorEq]
    refine aw_seq ?_
    refine aw_seq (aw_region_q r14_3 ?_)
    (repeat (first | simp [-invQ_normal, l14_3, a0, a1, hg, hl, c1, wordC, aBin, aUn, pow2_ne, pow2_ne_i, eqCells, eqCell, int_beq, splice, alloc1_loc, box1_loc, bld, aFill] | simp (disch := omega) only [wrap_i64, wrap_u64, tmod_nn, tdiv_nn, idx_w, idx_i, app_w]))
    refine aw_block ?_
    obtain ⟨I3, hI3⟩ : ∃ I : Nat → St → Prop, I = fun k s => ∃ (i : Nat), k = a.length - i ∧ s.get 0 = .sl (intsL a) ∧ s.get 1 = .sl (intsL b) ∧ s.get 5 = .raw (.int .i64 i) ∧ s.m.gs = gs ∧ (i ≤ a.length) ∧ (a.take i = b.take i) ∧ (a.length = b.length) := ⟨_, rfl⟩
    refine aw_inv2 I3 ?_ ?_
    · rw [hI3]
      refine ⟨_, 0, rfl, ?_⟩
      (repeat (first | simp [-invQ_normal, a0, a1, hg, hl, c1, wordC, aBin, aUn, pow2_ne, pow2_ne_i, eqCells, eqCell, int_beq, splice, alloc1_loc, box1_loc, bld, aFill] | simp (disch := omega) only [wrap_i64, wrap_u64, tmod_nn, tdiv_nn, idx_w, idx_i, app_w])) <;> (omega)
    · intro k s hI0
      rw [hI3] at hI0
      obtain ⟨i, k4, i5_0, i6_1, i7_5, hg, hi, he, hle⟩ := hI0
      unfold b14_L0
      refine aw_seq ?_
      refine aw_seq (aw_region_q r14_4 ?_)
      (repeat (first | simp [-invQ_normal, l14_4, hl, i5_0, i6_1, i7_5, hg, wordC, aBin, aUn, pow2_ne, pow2_ne_i, eqCells, eqCell, int_beq, splice, alloc1_loc, box1_loc, bld, aFill] | simp (disch := omega) only [wrap_i64, wrap_u64, tmod_nn, tdiv_nn, idx_w, idx_i, app_w]))
      refine aw_cond_v ?_
      (repeat (first | simp [-invQ_normal, hl, i5_0, i6_1, i7_5, hg, wordC, aBin, aUn, pow2_ne, pow2_ne_i, eqCells, eqCell, int_beq, splice, alloc1_loc, box1_loc, bld, aFill] | simp (disch := omega) only [wrap_i64, wrap_u64, tmod_nn, tdiv_nn, idx_w, idx_i, app_w]))
      refine condV_split ⟨_, rfl⟩ (fun c11 => ?_) (fun c11 => ?_)
      · simp only [AVal.raw.injEq, Value.bool.injEq, decide_eq_false_iff_not, decide_eq_true_eq, Bool.not_eq_true, Bool.not_eq_false, Bool.not_eq_eq_eq_not, Bool.not_true, Bool.not_false, Bool.and_eq_true, Bool.or_eq_true, Bool.or_eq_false_iff] at c11
        refine aw_skip ?_
        try simp only [seqQ_normal, seqQ_exit, seqQ_ret, blockQ_normal, blockQ_ret, blockQ_exit, invQ_exit, invQ_ret, endQ_eq, if_true, reduceIte, Nat.reduceEqDiff, reduceCtorEq]
        refine aw_seq ?_
        refine aw_block ?_
        refine aw_seq (aw_region_d r14_6 ?_)
        (repeat (first | simp [-invQ_normal, l14_6, hl, i5_0, i6_1, i7_5, hg, c11, wordC, aBin, aUn, pow2_ne, pow2_ne_i, eqCells, eqCell, int_beq, splice, alloc1_loc, box1_loc, bld, aFill] | simp (disch := omega) only [wrap_i64, wrap_u64, tmod_nn, tdiv_nn, idx_w, idx_i, app_w]))
        refine aw_cond_v ?_
        (repeat (first | simp [-invQ_normal, hl, i5_0, i6_1, i7_5, hg, c11, wordC, aBin, aUn, pow2_ne, pow2_ne_i, eqCells, eqCell, int_beq, splice, alloc1_loc, box1_loc, bld, aFill] | simp (disch := omega) only [wrap_i64, wrap_u64, tmod_nn, tdiv_nn, idx_w, idx_i, app_w]))
        refine condV_split ⟨_, rfl⟩ (fun c12 => ?_) (fun c12 => ?_)
        · simp only [AVal.raw.injEq, Value.bool.injEq, decide_eq_false_iff_not, decide_eq_true_eq, Bool.not_eq_true, Bool.not_eq_false, Bool.not_eq_eq_eq_not, Bool.not_true, Bool.not_false, Bool.and_eq_true, Bool.or_eq_true, Bool.or_eq_false_iff] at c12
          refine aw_seq (aw_region_q r14_7 ?_)
          (repeat (first | simp [-invQ_normal, l14_7, hl, i5_0, i6_1, i7_5, hg, c11, c12, wordC, aBin, aUn, pow2_ne, pow2_ne_i, eqCells, eqCell, int_beq, splice, alloc1_loc, box1_loc, bld, aFill] | simp (disch := omega) only [wrap_i64, wrap_u64, tmod_nn, tdiv_nn, idx_w, idx_i, app_w]))
          refine aw_ret (retQ_vals (gs := gs) [.raw (.bool (decide (a = b)))] (.inr rfl) ?_ (by simp [givenAs, AVal.fixed, rawCell]) (by (repeat (first | simp [-invQ_normal, hl, i5_0, i6_1, i7_5, hg, c11, c12, wordC, aBin, aUn, pow2_ne, pow2_ne_i, eqCells, eqCell, int_beq, splice, alloc1_loc, box1_loc, bld, aFill] | simp (disch := omega) only [wrap_i64, wrap_u64, tmod_nn, tdiv_nn, idx_w, idx_i, app_w]))) (by rw [← hr0]; first | done | rfl))
          (repeat (first | simp [-invQ_normal, resultOf, hl, i5_0, i6_1, i7_5, hg, c11, c12, wordC, aBin, aUn, pow2_ne, pow2_ne_i, eqCells, eqCell, int_beq, splice, alloc1_loc, box1_loc, bld, aFill] | simp (disch := omega) only [wrap_i64, wrap_u64, tmod_nn, tdiv_nn, idx_w, idx_i, app_w])) <;> ((intro e; subst e; simp_all))
        · simp only [AVal.raw.injEq, Value.bool.injEq, decide_eq_false_iff_not, decide_eq_true_eq, Bool.not_eq_true, Bool.not_eq_false, Bool.not_eq_eq_eq_not, Bool.not_true, Bool.not_false, Bool.and_eq_true, Bool.or_eq_true, Bool.or_eq_false_iff] at c12
          refine aw_skip ?_
          try simp only [seqQ_normal, seqQ_exit, seqQ_ret, blockQ_normal, blockQ_ret, blockQ_exit, invQ_exit, invQ_ret, endQ_eq, if_true, reduceIte, Nat.reduceEqDiff, reduceCtorEq]
          refine aw_region_q r14_5 ?_
          (repeat (first | simp [-invQ_normal, l14_5, hl, i5_0, i6_1, i7_5, hg, c11, c12, wordC, aBin, aUn, pow2_ne, pow2_ne_i, eqCells, eqCell, int_beq, splice, alloc1_loc, box1_loc, bld, aFill] | simp (disch := omega) only [wrap_i64, wrap_u64, tmod_nn, tdiv_nn, idx_w, idx_i, app_w]))
          -- cont 0: t14=T t25=F
          simp only [invQ_normal]
          rw [hI3]
          refine ⟨_, ?_, i + 1, rfl, ?_⟩
          · omega
          · (repeat (first | simp [-invQ_normal, hl, i5_0, i6_1, i7_5, hg, c11, c12, wordC, aBin, aUn, pow2_ne, pow2_ne_i, eqCells, eqCell, int_beq, splice, alloc1_loc, box1_loc, bld, aFill] | simp (disch := omega) only [wrap_i64, wrap_u64, tmod_nn, tdiv_nn, idx_w, idx_i, app_w])) <;> (exact ⟨by omega, take_step (by assumption) (by omega) (by assumption) he, hle⟩)
      · simp only [AVal.raw.injEq, Value.bool.injEq, decide_eq_false_iff_not, decide_eq_true_eq, Bool.not_eq_true, Bool.not_eq_false, Bool.not_eq_eq_eq_not, Bool.not_true, Bool.not_false, Bool.and_eq_true, Bool.or_eq_true, Bool.or_eq_false_iff] at c11
        refine aw_exit ?_
        try simp only [seqQ_normal, seqQ_exit, seqQ_ret, blockQ_normal, blockQ_ret, blockQ_exit, invQ_exit, invQ_ret, endQ_eq, if_true, reduceIte, Nat.reduceEqDiff, reduceCtorEq]
        refine aw_seq (aw_region_q r14_8 ?_)
        (repeat (first | simp [-invQ_normal, l14_8, hl, i5_0, i6_1, i7_5, hg, c11, wordC, aBin, aUn, pow2_ne, pow2_ne_i, eqCells, eqCell, int_beq, splice, alloc1_loc, box1_loc, bld, aFill] | simp (disch := omega) only [wrap_i64, wrap_u64, tmod_nn, tdiv_nn, idx_w, idx_i, app_w]))
        refine aw_ret (retQ_vals (gs := gs) [.raw (.bool (decide (a = b)))] (.inr rfl) ?_ (by simp [givenAs, AVal.fixed, rawCell]) (by (repeat (first | simp [-invQ_normal, hl, i5_0, i6_1, i7_5, hg, c11, wordC, aBin, aUn, pow2_ne, pow2_ne_i, eqCells, eqCell, int_beq, splice, alloc1_loc, box1_loc, bld, aFill] | simp (disch := omega) only [wrap_i64, wrap_u64, tmod_nn, tdiv_nn, idx_w, idx_i, app_w]))) (by rw [← hr0]; first | done | rfl))
        (repeat (first | simp [-invQ_normal, resultOf, hl, i5_0, i6_1, i7_5, hg, c11, wordC, aBin, aUn, pow2_ne, pow2_ne_i, eqCells, eqCell, int_beq, splice, alloc1_loc, box1_loc, bld, aFill] | simp (disch := omega) only [wrap_i64, wrap_u64, tmod_nn, tdiv_nn, idx_w, idx_i, app_w])) <;> (exact take_end (by assumption) hle he)
set_option maxHeartbeats 800000 in
theorem ev_Same_ref (a b : List (Int × Int)) (hl : a.length < 2 ^ 63) (base : Nat) (gs : GS)  : Evals E 18 [.sl (a.map wordC), .sl (b.map wordC)] base gs ([.v (.raw (.bool (decide (a = b))))], gs) := by
  refine evals_walk 26 #[.tmp 4] rfl (by kernel_rfl) b18_eq (by kernel_rfl) (by kernel_rfl) (by simp) fun s hs hm => ?_
  have a0 : s.get 0 = .sl (a.map wordC) := by simpa using hs 0
  have a1 : s.get 1 = .sl (b.map wordC) := by simpa using hs 1
  have hg : s.m.gs = gs := by rw [hm]
  clear hs
  generalize hr0 : (([.v (.raw (.bool (decide (a = b))))], gs) : List RV × GS) = r0
  unfold b18
  refine aw_seq (aw_region_q r18_0 ?_)
  (repeat (first | simp [-invQ_normal, l18_0, a0, a1, hg, hl, wordC, aBin, aUn, pow2_ne, pow2_ne_i, eqCells, eqCell, int_beq, splice, alloc1_loc, box1_loc, bld, aFill] | simp (disch := omega) only [wrap_i64, wrap_u64, tmod_nn, tdiv_nn, idx_w, idx_i, app_w]))
  refine aw_seq ?_
  refine aw_seq (aw_region_q r18_1 ?_)
  (repeat (first | simp [-invQ_normal, l18_1, a0, a1, hg, hl, wordC, aBin, aUn, pow2_ne, pow2_ne_i, eqCells, eqCell, int_beq, splice, alloc1_loc, box1_loc, bld, aFill] | simp (disch := omega) only [wrap_i64, wrap_u64, tmod_nn, tdiv_nn, idx_w, idx_i, app_w]))
  refine aw_cond_v ?_
  (repeat (first | simp [-invQ_normal, a0, a1, hg, hl, wordC, aBin, aUn, pow2_ne, pow2_ne_i, eqCells, eqCell, int_beq, splice, alloc1_loc, box1_loc, bld, aFill] | simp (disch := omega) only [wrap_i64, wrap_u64, tmod_nn, tdiv_nn, idx_w, idx_i, app_w]))
  refine condV_split ⟨_, rfl⟩ (fun c1 => ?_) (fun c1 => ?_)
  · simp only [AVal.raw.injEq, Value.bool.injEq, decide_eq_false_iff_not, decide_eq_true_eq, Bool.not_eq_true, Bool.not_eq_false, Bool.not_eq_eq_eq_not, Bool.not_true, Bool.not_false, Bool.and_eq_true, Bool.or_eq_true, Bool.or_eq_false_iff] at c1
    refine aw_seq (aw_region_q r18_2 ?_)
    (repeat (first | simp [-invQ_normal, l18_2, a0, a1, hg, hl, c1, wordC, aBin, aUn, pow2_ne, pow2_ne_i, eqCells, eqCell, int_beq, splice, alloc1_loc, box1_loc, bld, aFill] | simp (disch := omega) only [wrap_i64, wrap_u64, tmod_nn, tdiv_nn, idx_w, idx_i, app_w]))
    refine aw_ret (retQ_vals (gs := gs) [.raw (.bool (decide (a = b)))] (.inr rfl) ?_ (by simp [givenAs, AVal.fixed, rawCell]) (by (repeat (first | simp [-invQ_normal, a0, a1, hg, hl, c1, wordC, aBin, aUn, pow2_ne, pow2_ne_i, eqCells, eqCell, int_beq, splice, alloc1_loc, box1_loc, bld, aFill] | simp (disch := omega) only [wrap_i64, wrap_u64, tmod_nn, tdiv_nn, idx_w, idx_i, app_w]))) (by rw [← hr0]; first | done | rfl))
    (repeat (first | simp [-invQ_normal, resultOf, a0, a1, hg, hl, c1, wordC, aBin, aUn, pow2_ne, pow2_ne_i, eqCells, eqCell, int_beq, splice, alloc1_loc, box1_loc, bld, aFill] | simp (disch := omega) only [wrap_i64, wrap_u64, tmod_nn, tdiv_nn, idx_w, idx_i, app_w])) <;> (exact fun e => absurd (congrArg (fun l : List (Int × Int) => (l.length : Int)) e) (by assumption))
  · simp only [AVal.raw.injEq, Value.bool.injEq, decide_eq_false_iff_not, decide_eq_true_eq, Bool.not_eq_true, Bool.not_eq_false, Bool.not_eq_eq_eq_not, Bool.not_true, Bool.not_false, Bool.and_eq_true, Bool.or_eq_true, Bool.or_eq_false_iff] at c1
    refine aw_skip ?_
    try simp only [seqQ_normal, seqQ_exit, seqQ_ret, blockQ_normal, blockQ_ret, blockQ_exit, invQ_exit, invQ_ret, endQ_eq, if_true, reduceIte, Nat.reduceEqDiff, reduceCtorEq]
    refine aw_seq ?_
    refine aw_seq (aw_region_q r18_3 ?_)
    (repeat (first | simp [-invQ_normal, l18_3, a0, a1, hg, hl, c1, wordC, aBin, aUn, pow2_ne, pow2_ne_i, eqCells, eqCell, int_beq, splice, alloc1_loc, box1_loc, bld, aFill] | simp (disch := omega) only [wrap_i64, wrap_u64, tmod_nn, tdiv_nn, idx_w, idx_i, app_w]))
    refine aw_block ?_
    obtain ⟨I3, hI3⟩ : ∃ I : Nat → St → Prop, I = fun k s => ∃ (i : Nat), k = a.length - i ∧ s.get 0 = .sl (a.map wordC) ∧ s.get 1 = .sl (b.map wordC) ∧ s.get 5 = .raw (.int .i64 i) ∧ s.m.gs = gs ∧ (i ≤ a.length) ∧ (a.take i = b.take i) ∧ (a.length = b.length) := ⟨_, rfl⟩
    refine aw_inv2 I3 ?_ ?_
    · rw [hI3]
      refine ⟨_, 0, rfl, ?_⟩
      (repeat (first | simp [-invQ_normal, a0, a1, hg, hl, c1, wordC, aBin, aUn, pow2_ne, pow2_ne_i, eqCells, eqCell, int_beq, splice, alloc1_loc, box1_loc, bld, aFill] | simp (disch := omega) only [wrap_i64, wrap_u64, tmod_nn, tdiv_nn, idx_w, idx_i, app_w])) <;> (omega)
    · intro k s hI0
      rw [hI3] at hI0
      obtain ⟨i, k4, i5_0, i6_1, i7_5, hg, hi, he, hle⟩ := hI0
      unfold b18_L0
      refine aw_seq ?_
      refine aw_seq (aw_region_q r18_4 ?_)
      (repeat (first | simp [-invQ_normal, l18_4, hl, i5_0, i6_1, i7_5, hg, wordC, aBin, aUn, pow2_ne, pow2_ne_i, eqCells, eqCell, int_beq, splice, alloc1_loc, box1_loc, bld, aFill] | simp (disch := omega) only [wrap_i64, wrap_u64, tmod_nn, tdiv_nn, idx_w, idx_i, app_w]))
      refine aw_cond_v ?_
      (repeat (first | simp [-invQ_normal, hl, i5_0, i6_1, i7_5, hg, wordC, aBin, aUn, pow2_ne, pow2_ne_i, eqCells, eqCell, int_beq, splice, alloc1_loc, box1_loc, bld, aFill] | simp (disch := omega) only [wrap_i64, wrap_u64, tmod_nn, tdiv_nn, idx_w, idx_i, app_w]))
      refine condV_split ⟨_, rfl⟩ (fun c11 => ?_) (fun c11 => ?_)
      · simp only [AVal.raw.injEq, Value.bool.injEq, decide_eq_false_iff_not, decide_eq_true_eq, Bool.not_eq_true, Bool.not_eq_false, Bool.not_eq_eq_eq_not, Bool.not_true, Bool.not_false, Bool.and_eq_true, Bool.or_eq_true, Bool.or_eq_false_iff] at c11
        refine aw_skip ?_
        try simp only [seqQ_normal, seqQ_exit, seqQ_ret, blockQ_normal, blockQ_ret, blockQ_exit, invQ_exit, invQ_ret, endQ_eq, if_true, reduceIte, Nat.reduceEqDiff, reduceCtorEq]
        refine aw_seq ?_
        refine aw_block ?_
        refine aw_seq (aw_region_d r18_6 ?_)
        (repeat (first | simp [-invQ_normal, l18_6, hl, i5_0, i6_1, i7_5, hg, c11, wordC, aBin, aUn, pow2_ne, pow2_ne_i, eqCells, eqCell, int_beq, splice, alloc1_loc, box1_loc, bld, aFill] | simp (disch := omega) only [wrap_i64, wrap_u64, tmod_nn, tdiv_nn, idx_w, idx_i, app_w]))
        refine aw_cond_v ?_
        (repeat (first | simp [-invQ_normal, hl, i5_0, i6_1, i7_5, hg, c11, wordC, aBin, aUn, pow2_ne, pow2_ne_i, eqCells, eqCell, int_beq, splice, alloc1_loc, box1_loc, bld, aFill] | simp (disch := omega) only [wrap_i64, wrap_u64, tmod_nn, tdiv_nn, idx_w, idx_i, app_w]))
        refine condV_split ⟨_, rfl⟩ (fun c12 => ?_) (fun c12 => ?_)
        · simp only [AVal.raw.injEq, Value.bool.injEq, decide_eq_false_iff_not, decide_eq_true_eq, Bool.not_eq_true, Bool.not_eq_false, Bool.not_eq_eq_eq_not, Bool.not_true, Bool.not_false, Bool.and_eq_true, Bool.or_eq_true, Bool.or_eq_false_iff] at c12
          refine aw_seq (aw_region_q r18_7 ?_)
          (repeat (first | simp [-invQ_normal, l18_7, hl, i5_0, i6_1, i7_5, hg, c11, c12, wordC, aBin, aUn, pow2_ne, pow2_ne_i, eqCells, eqCell, int_beq, splice, alloc1_loc, box1_loc, bld, aFill] | simp (disch := omega) only [wrap_i64, wrap_u64, tmod_nn, tdiv_nn, idx_w, idx_i, app_w]))
          refine aw_ret (retQ_vals (gs := gs) [.raw (.bool (decide (a = b)))] (.inr rfl) ?_ (by simp [givenAs, AVal.fixed, rawCell]) (by (repeat (first | simp [-invQ_normal, hl, i5_0, i6_1, i7_5, hg, c11, c12, wordC, aBin, aUn, pow2_ne, pow2_ne_i, eqCells, eqCell, int_beq, splice, alloc1_loc, box1_loc, bld, aFill] | simp (disch := omega) only [wrap_i64, wrap_u64, tmod_nn, tdiv_nn, idx_w, idx_i, app_w]))) (by rw [← hr0]; first | done | rfl))
          (repeat (first | simp [-invQ_normal, resultOf, hl, i5_0, i6_1, i7_5, hg, c11, c12, wordC, aBin, aUn, pow2_ne, pow2_ne_i, eqCells, eqCell, int_beq, splice, alloc1_loc, box1_loc, bld, aFill] | simp (disch := omega) only [wrap_i64, wrap_u64, tmod_nn, tdiv_nn, idx_w, idx_i, app_w])) <;> ((intro e; subst e; simp_all))
        · simp only [AVal.raw.injEq, Value.bool.injEq, decide_eq_false_iff_not, decide_eq_true_eq, Bool.not_eq_true, Bool.not_eq_false, Bool.not_eq_eq_eq_not, Bool.not_true, Bool.not_false, Bool.and_eq_true, Bool.or_eq_true, Bool.or_eq_false_iff] at c12
          refine aw_skip ?_
          try simp only [seqQ_normal, seqQ_exit, seqQ_ret, blockQ_normal, blockQ_ret, blockQ_exit, invQ_exit, invQ_ret, endQ_eq, if_true, reduceIte, Nat.reduceEqDiff, reduceCtorEq]
          refine aw_region_q r18_5 ?_
          (repeat (first | simp [-invQ_normal, l18_5, hl, i5_0, i6_1, i7_5, hg, c11, c12, wordC, aBin, aUn, pow2_ne, pow2_ne_i, eqCells, eqCell, int_beq, splice, alloc1_loc, box1_loc, bld, aFill] | simp (disch := omega) only [wrap_i64, wrap_u64, tmod_nn, tdiv_nn, idx_w, idx_i, app_w]))
          -- cont 0: t14=T t25=F
          simp only [invQ_normal]
          rw [hI3]
          refine ⟨_, ?_, i + 1, rfl, ?_⟩
          · omega
          · (repeat (first | simp [-invQ_normal, hl, i5_0, i6_1, i7_5, hg, c11, c12, wordC, aBin, aUn, pow2_ne, pow2_ne_i, eqCells, eqCell, int_beq, splice, alloc1_loc, box1_loc, bld, aFill] | simp (disch := omega) only [wrap_i64, wrap_u64, tmod_nn, tdiv_nn, idx_w, idx_i, app_w])) <;> (exact ⟨by omega, take_step (by assumption) (by omega) (by first | assumption | (apply Prod.ext <;> simp_all)) he, hle⟩)
      · simp only [AVal.raw.injEq, Value.bool.injEq, decide_eq_false_iff_not, decide_eq_true_eq, Bool.not_eq_true, Bool.not_eq_false, Bool.not_eq_eq_eq_not, Bool.not_true, Bool.not_false, Bool.and_eq_true, Bool.or_eq_true, Bool.or_eq_false_iff] at c11
        refine aw_exit ?_
        try simp only [seqQ_normal, seqQ_exit, seqQ_ret, blockQ_normal, blockQ_ret, blockQ_exit, invQ_exit, invQ_ret, endQ_eq, if_true, reduceIte, Nat.reduceEqDiff, reduceCtorEq]
        refine aw_seq (aw_region_q r18_8 ?_)
        (repeat (first | simp [-invQ_normal, l18_8, hl, i5_0, i6_1, i7_5, hg, c11, wordC, aBin, aUn, pow2_ne, pow2_ne_i, eqCells, eqCell, int_beq, splice, alloc1_loc, box1_loc, bld, aFill] | simp (disch := omega) only [wrap_i64, wrap_u64, tmod_nn, tdiv_nn, idx_w, idx_i, app_w]))
        refine aw_ret (retQ_vals (gs := gs) [.raw (.bool (decide (a = b)))] (.inr rfl) ?_ (by simp [givenAs, AVal.fixed, rawCell]) (by (repeat (first | simp [-invQ_normal, hl, i5_0, i6_1, i7_5, hg, c11, wordC, aBin, aUn, pow2_ne, pow2_ne_i, eqCells, eqCell, int_beq, splice, alloc1_loc, box1_loc, bld, aFill] | simp (disch := omega) only [wrap_i64, wrap_u64, tmod_nn, tdiv_nn, idx_w, idx_i, app_w]))) (by rw [← hr0]; first | done | rfl))
        (repeat (first | simp [-invQ_normal, resultOf, hl, i5_0, i6_1, i7_5, hg, c11, wordC, aBin, aUn, pow2_ne, pow2_ne_i, eqCells, eqCell, int_beq, splice, alloc1_loc, box1_loc, bld, aFill] | simp (disch := omega) only [wrap_i64, wrap_u64, tmod_nn, tdiv_nn, idx_w, idx_i, app_w])) <;> (exact take_end (by assumption) hle he)
set_option maxHeartbeats 800000 in
theorem ev_BitsTells (ws o : List (Int × Int)) (n : Int) (hn : -9223372036854775808 ≤ n ∧ n < 9223372036854775808) (hbs : bits64 ws) (base : Nat) (gs : GS)  : Evals E 3 [.sl (ws.map wordC), .sl (o.map wordC), .raw (.int .i64 n)] base gs ([.v (.raw (.bool true))], gs) := by
  refine evals_walk 114 #[.tmp 6] rfl (by kernel_rfl) b3_eq (by kernel_rfl) (by kernel_rfl) (by simp) fun s hs hm => ?_
  have a0 : s.get 0 = .sl (ws.map wordC) := by simpa using hs 0
  have a1 : s.get 1 = .sl (o.map wordC) := by simpa using hs 1
  have a2 : s.get 2 = .raw (.int .i64 n) := by simpa using hs 2
  have hg : s.m.gs = gs := by rw [hm]
  clear hs
  generalize hr0 : (([.v (.raw (.bool true))], gs) : List RV × GS) = r0
  unfold b3
  refine aw_seq (aw_region_q r3_0 ?_)
  (repeat (first | simp [-invQ_normal, l3_0, a0, a1, a2, hg, wordC, aBin, aUn, pow2_ne, pow2_ne_i, eqCells, eqCell, int_beq, splice, alloc1_loc, box1_loc, bld, aFill] | simp (disch := omega) only [wrap_i64, wrap_u64, tmod_nn, tdiv_nn, idx_w, idx_i, app_w]))
  refine aw_seq ?_
  refine aw_seq (aw_region_q r3_1 ?_)
  (repeat (first | simp [-invQ_normal, l3_1, a0, a1, a2, hg, wordC, aBin, aUn, pow2_ne, pow2_ne_i, eqCells, eqCell, int_beq, splice, alloc1_loc, box1_loc, bld, aFill] | simp (disch := omega) only [wrap_i64, wrap_u64, tmod_nn, tdiv_nn, idx_w, idx_i, app_w]))
  refine wpG_split ⟨_, rfl⟩ (fun g1 => ?_) (fun g1 => ?_)
  · simp only [AVal.raw.injEq, Value.bool.injEq, decide_eq_false_iff_not, decide_eq_true_eq, Bool.not_eq_true, Bool.not_eq_false, Bool.not_eq_eq_eq_not, Bool.not_true, Bool.not_false, Bool.and_eq_true, Bool.or_eq_true, Bool.or_eq_false_iff] at g1
    (repeat (first | simp [-invQ_normal, a0, a1, a2, hg, g1, wordC, aBin, aUn, pow2_ne, pow2_ne_i, eqCells, eqCell, int_beq, splice, alloc1_loc, box1_loc, bld, aFill] | simp (disch := omega) only [wrap_i64, wrap_u64, tmod_nn, tdiv_nn, idx_w, idx_i, app_w]))
    refine aw_cond_1 (by (repeat (first | simp [-invQ_normal, a0, a1, a2, hg, g1, wordC, aBin, aUn, pow2_ne, pow2_ne_i, eqCells, eqCell, int_beq, splice, alloc1_loc, box1_loc, bld, aFill] | simp (disch := omega) only [wrap_i64, wrap_u64, tmod_nn, tdiv_nn, idx_w, idx_i, app_w]))) ?_
    refine aw_seq (aw_region_q r3_2 ?_)
    (repeat (first | simp [-invQ_normal, l3_2, a0, a1, a2, hg, g1, wordC, aBin, aUn, pow2_ne, pow2_ne_i, eqCells, eqCell, int_beq, splice, alloc1_loc, box1_loc, bld, aFill] | simp (disch := omega) only [wrap_i64, wrap_u64, tmod_nn, tdiv_nn, idx_w, idx_i, app_w]))
    refine aw_ret (retQ_vals (gs := gs) [.raw (.bool true)] (.inr rfl) ?_ (by simp [givenAs, AVal.fixed, rawCell]) (by (repeat (first | simp [-invQ_normal, a0, a1, a2, hg, g1, wordC, aBin, aUn, pow2_ne, pow2_ne_i, eqCells, eqCell, int_beq, splice, alloc1_loc, box1_loc, bld, aFill] | simp (disch := omega) only [wrap_i64, wrap_u64, tmod_nn, tdiv_nn, idx_w, idx_i, app_w]))) (by rw [← hr0]; first | done | rfl))
    (repeat (first | simp [-invQ_normal, resultOf, a0, a1, a2, hg, g1, wordC, aBin, aUn, pow2_ne, pow2_ne_i, eqCells, eqCell, int_beq, splice, alloc1_loc, box1_loc, bld, aFill] | simp (disch := omega) only [wrap_i64, wrap_u64, tmod_nn, tdiv_nn, idx_w, idx_i, app_w])) <;> (trace_state; sorry)
  · simp only [AVal.raw.injEq, Value.bool.injEq, decide_eq_false_iff_not, decide_eq_true_eq, Bool.not_eq_true, Bool.not_eq_false, Bool.not_eq_eq_eq_not, Bool.not_true, Bool.not_false, Bool.and_eq_true, Bool.or_eq_true, Bool.or_eq_false_iff] at g1
    have hs0 : ws.length ≤ 10 := (by omega)
    (repeat (first | simp [-invQ_normal, a0, a1, a2, hg, g1, wordC, aBin, aUn, pow2_ne, pow2_ne_i, eqCells, eqCell, int_beq, splice, alloc1_loc, box1_loc, bld, aFill] | simp (disch := omega) only [wrap_i64, wrap_u64, tmod_nn, tdiv_nn, idx_w, idx_i, app_w]))
    refine aw_cond_v ?_
    (repeat (first | simp [-invQ_normal, a0, a1, a2, hg, g1, wordC, aBin, aUn, pow2_ne, pow2_ne_i, eqCells, eqCell, int_beq, splice, alloc1_loc, box1_loc, bld, aFill] | simp (disch := omega) only [wrap_i64, wrap_u64, tmod_nn, tdiv_nn, idx_w, idx_i, app_w]))
    refine condV_split ⟨_, rfl⟩ (fun c2 => ?_) (fun c2 => ?_)
    · simp only [AVal.raw.injEq, Value.bool.injEq, decide_eq_false_iff_not, decide_eq_true_eq, Bool.not_eq_true, Bool.not_eq_false, Bool.not_eq_eq_eq_not, Bool.not_true, Bool.not_false, Bool.and_eq_true, Bool.or_eq_true, Bool.or_eq_false_iff] at c2
      refine aw_seq (aw_region_q r3_2 ?_)
      (repeat (first | simp [-invQ_normal, l3_2, a0, a1, a2, hg, g1, c2, wordC, aBin, aUn, pow2_ne, pow2_ne_i, eqCells, eqCell, int_beq, splice, alloc1_loc, box1_loc, bld, aFill] | simp (disch := omega) only [wrap_i64, wrap_u64, tmod_nn, tdiv_nn, idx_w, idx_i, app_w]))
      refine aw_ret (retQ_vals (gs := gs) [.raw (.bool true)] (.inr rfl) ?_ (by simp [givenAs, AVal.fixed, rawCell]) (by (repeat (first | simp [-invQ_normal, a0, a1, a2, hg, g1, c2, wordC, aBin, aUn, pow2_ne, pow2_ne_i, eqCells, eqCell, int_beq, splice, alloc1_loc, box1_loc, bld, aFill] | simp (disch := omega) only [wrap_i64, wrap_u64, tmod_nn, tdiv_nn, idx_w, idx_i, app_w]))) (by rw [← hr0]; first | done | rfl))
      (repeat (first | simp [-invQ_normal, resultOf, a0, a1, a2, hg, g1, c2, wordC, aBin, aUn, pow2_ne, pow2_ne_i, eqCells, eqCell, int_beq, splice, alloc1_loc, box1_loc, bld, aFill] | simp (disch := omega) only [wrap_i64, wrap_u64, tmod_nn, tdiv_nn, idx_w, idx_i, app_w])) <;> (trace_state; sorry)
    · simp only [AVal.raw.injEq, Value.bool.injEq, decide_eq_false_iff_not, decide_eq_true_eq, Bool.not_eq_true, Bool.not_eq_false, Bool.not_eq_eq_eq_not, Bool.not_true, Bool.not_false, Bool.and_eq_true, Bool.or_eq_true, Bool.or_eq_false_iff] at c2
      have hs : ws.length ≤ 16384 := (by omega)
      refine aw_skip ?_
      try simp only [seqQ_normal, seqQ_exit, seqQ_ret, blockQ_normal, blockQ_ret, blockQ_exit, invQ_exit, invQ_ret, endQ_eq, if_true, reduceIte, Nat.reduceEqDiff, reduceCtorEq]
      refine aw_seq (aw_region_q r3_3 ?_)
      (repeat (first | simp [-invQ_normal, l3_3, a0, a1, a2, hg, g1, c2, wordC, aBin, aUn, pow2_ne, pow2_ne_i, eqCells, eqCell, int_beq, splice, alloc1_loc, box1_loc, bld, aFill] | simp (disch := omega) only [wrap_i64, wrap_u64, tmod_nn, tdiv_nn, idx_w, idx_i, app_w]))
      refine aw_seq (aw_region_q r3_4 ?_)
      (repeat (first | simp [-invQ_normal, l3_4, a0, a1, a2, hg, g1, c2, wordC, aBin, aUn, pow2_ne, pow2_ne_i, eqCells, eqCell, int_beq, splice, alloc1_loc, box1_loc, bld, aFill] | simp (disch := omega) only [wrap_i64, wrap_u64, tmod_nn, tdiv_nn, idx_w, idx_i, app_w]))
      refine wpC_vals (ev_List ws hs hbs _ _) (by simp) (by simp [isRow]) (by simp) (by first | simp | assumption) (by simp [plainArg, plain1, AVal.shared, AVal.shared.sharedOne, rawCell]) ⟨by simp, ?_⟩
      (repeat (first | simp [-invQ_normal, a0, a1, a2, hg, g1, c2, wordC, aBin, aUn, pow2_ne, pow2_ne_i, eqCells, eqCell, int_beq, splice, alloc1_loc, box1_loc, bld, aFill] | simp (disch := omega) only [wrap_i64, wrap_u64, tmod_nn, tdiv_nn, idx_w, idx_i, app_w]))
      refine aw_seq (aw_region_q r3_5 ?_)
      (repeat (first | simp [-invQ_normal, l3_5, a0, a1, a2, hg, g1, c2, wordC, aBin, aUn, pow2_ne, pow2_ne_i, eqCells, eqCell, int_beq, splice, alloc1_loc, box1_loc, bld, aFill] | simp (disch := omega) only [wrap_i64, wrap_u64, tmod_nn, tdiv_nn, idx_w, idx_i, app_w]))
      refine wpC_vals (ev_List_ref ws hs hbs _ _) (by simp) (by simp [isRow]) (by simp) (by first | simp | assumption) (by simp [plainArg, plain1, AVal.shared, AVal.shared.sharedOne, rawCell]) ⟨by simp, ?_⟩
      (repeat (first | simp [-invQ_normal, a0, a1, a2, hg, g1, c2, wordC, aBin, aUn, pow2_ne, pow2_ne_i, eqCells, eqCell, int_beq, splice, alloc1_loc, box1_loc, bld, aFill] | simp (disch := omega) only [wrap_i64, wrap_u64, tmod_nn, tdiv_nn, idx_w, idx_i, app_w]))
      refine aw_seq (aw_region_q r3_6 ?_)
      (repeat (first | simp [-invQ_normal, l3_6, a0, a1, a2, hg, g1, c2, wordC, aBin, aUn, pow2_ne, pow2_ne_i, eqCells, eqCell, int_beq, splice, alloc1_loc, box1_loc, bld, aFill] | simp (disch := omega) only [wrap_i64, wrap_u64, tmod_nn, tdiv_nn, idx_w, idx_i, app_w]))
      refine wpC_vals (ev_Has ws hs hbs n hn _ _) (by simp) (by simp [isRow]) (by simp) (by first | simp | assumption) (by simp [plainArg, plain1, AVal.shared, AVal.shared.sharedOne, rawCell]) ⟨by simp, ?_⟩
      (repeat (first | simp [-invQ_normal, a0, a1, a2, hg, g1, c2, wordC, aBin, aUn, pow2_ne, pow2_ne_i, eqCells, eqCell, int_beq, splice, alloc1_loc, box1_loc, bld, aFill] | simp (disch := omega) only [wrap_i64, wrap_u64, tmod_nn, tdiv_nn, idx_w, idx_i, app_w]))
      refine aw_seq (aw_region_q r3_7 ?_)
      (repeat (first | simp [-invQ_normal, l3_7, a0, a1, a2, hg, g1, c2, wordC, aBin, aUn, pow2_ne, pow2_ne_i, eqCells, eqCell, int_beq, splice, alloc1_loc, box1_loc, bld, aFill] | simp (disch := omega) only [wrap_i64, wrap_u64, tmod_nn, tdiv_nn, idx_w, idx_i, app_w]))
      refine wpC_vals (ev_Has_ref ws hs hbs n hn _ _) (by simp) (by simp [isRow]) (by simp) (by first | simp | assumption) (by simp [plainArg, plain1, AVal.shared, AVal.shared.sharedOne, rawCell]) ⟨by simp, ?_⟩
      (repeat (first | simp [-invQ_normal, a0, a1, a2, hg, g1, c2, wordC, aBin, aUn, pow2_ne, pow2_ne_i, eqCells, eqCell, int_beq, splice, alloc1_loc, box1_loc, bld, aFill] | simp (disch := omega) only [wrap_i64, wrap_u64, tmod_nn, tdiv_nn, idx_w, idx_i, app_w]))
      refine aw_seq (aw_region_q r3_8 ?_)
      (repeat (first | simp [-invQ_normal, l3_8, a0, a1, a2, hg, g1, c2, wordC, aBin, aUn, pow2_ne, pow2_ne_i, eqCells, eqCell, int_beq, splice, alloc1_loc, box1_loc, bld, aFill] | simp (disch := omega) only [wrap_i64, wrap_u64, tmod_nn, tdiv_nn, idx_w, idx_i, app_w]))
      refine wpC_vals (ev_Size ws hs hbs _ _) (by simp) (by simp [isRow]) (by simp) (by first | simp | assumption) (by simp [plainArg, plain1, AVal.shared, AVal.shared.sharedOne, rawCell]) ⟨by simp, ?_⟩
      (repeat (first | simp [-invQ_normal, a0, a1, a2, hg, g1, c2, wordC, aBin, aUn, pow2_ne, pow2_ne_i, eqCells, eqCell, int_beq, splice, alloc1_loc, box1_loc, bld, aFill] | simp (disch := omega) only [wrap_i64, wrap_u64, tmod_nn, tdiv_nn, idx_w, idx_i, app_w]))
      refine aw_seq (aw_region_q r3_9 ?_)
      (repeat (first | simp [-invQ_normal, l3_9, a0, a1, a2, hg, g1, c2, wordC, aBin, aUn, pow2_ne, pow2_ne_i, eqCells, eqCell, int_beq, splice, alloc1_loc, box1_loc, bld, aFill] | simp (disch := omega) only [wrap_i64, wrap_u64, tmod_nn, tdiv_nn, idx_w, idx_i, app_w]))
      refine wpC_vals (ev_Size_ref ws hs hbs _ _) (by simp) (by simp [isRow]) (by simp) (by first | simp | assumption) (by simp [plainArg, plain1, AVal.shared, AVal.shared.sharedOne, rawCell]) ⟨by simp, ?_⟩
      (repeat (first | simp [-invQ_normal, a0, a1, a2, hg, g1, c2, wordC, aBin, aUn, pow2_ne, pow2_ne_i, eqCells, eqCell, int_beq, splice, alloc1_loc, box1_loc, bld, aFill] | simp (disch := omega) only [wrap_i64, wrap_u64, tmod_nn, tdiv_nn, idx_w, idx_i, app_w]))
      refine aw_seq (aw_region_q r3_10 ?_)
      (repeat (first | simp [-invQ_normal, l3_10, a0, a1, a2, hg, g1, c2, wordC, aBin, aUn, pow2_ne, pow2_ne_i, eqCells, eqCell, int_beq, splice, alloc1_loc, box1_loc, bld, aFill] | simp (disch := omega) only [wrap_i64, wrap_u64, tmod_nn, tdiv_nn, idx_w, idx_i, app_w]))
      refine wpC_vals (ev_SameInts (listI ws) (listI ws) (by have := listI_len ws; omega) _ _) (by simp) (by simp [isRow]) (by simp) (by first | simp | assumption) (by simp [plainArg, plain1, AVal.shared, AVal.shared.sharedOne, rawCell]) ⟨by simp, ?_⟩
      (repeat (first | simp [-invQ_normal, a0, a1, a2, hg, g1, c2, wordC, aBin, aUn, pow2_ne, pow2_ne_i, eqCells, eqCell, int_beq, splice, alloc1_loc, box1_loc, bld, aFill] | simp (disch := omega) only [wrap_i64, wrap_u64, tmod_nn, tdiv_nn, idx_w, idx_i, app_w]))
      refine aw_seq (aw_region_q r3_11 ?_)
      (repeat (first | simp [-invQ_normal, l3_11, a0, a1, a2, hg, g1, c2, wordC, aBin, aUn, pow2_ne, pow2_ne_i, eqCells, eqCell, int_beq, splice, alloc1_loc, box1_loc, bld, aFill] | simp (disch := omega) only [wrap_i64, wrap_u64, tmod_nn, tdiv_nn, idx_w, idx_i, app_w]))
      refine wpC_vals (ev15 (x := extL) rfl ws (by omega) _ _) (by simp) (by simp [isRow]) (by simp) (by first | simp | assumption) (by simp [plainArg, plain1, AVal.shared, AVal.shared.sharedOne, rawCell]) ⟨by simp, ?_⟩
      (repeat (first | simp [-invQ_normal, a0, a1, a2, hg, g1, c2, wordC, aBin, aUn, pow2_ne, pow2_ne_i, eqCells, eqCell, int_beq, splice, alloc1_loc, box1_loc, bld, aFill] | simp (disch := omega) only [wrap_i64, wrap_u64, tmod_nn, tdiv_nn, idx_w, idx_i, app_w]))
      refine wpC_vals (ev_Check_ref ws (by omega) _ _) (by simp) (by simp [isRow]) (by simp) (by first | simp | assumption) (by simp [plainArg, plain1, AVal.shared, AVal.shared.sharedOne, rawCell]) ⟨by simp, ?_⟩
      (repeat (first | simp [-invQ_normal, a0, a1, a2, hg, g1, c2, wordC, aBin, aUn, pow2_ne, pow2_ne_i, eqCells, eqCell, int_beq, splice, alloc1_loc, box1_loc, bld, aFill] | simp (disch := omega) only [wrap_i64, wrap_u64, tmod_nn, tdiv_nn, idx_w, idx_i, app_w]))
      refine wpC_vals (ev_Same ws o (by omega) _ _) (by simp) (by simp [isRow]) (by simp) (by first | simp | assumption) (by simp [plainArg, plain1, AVal.shared, AVal.shared.sharedOne, rawCell]) ⟨by simp, ?_⟩
      (repeat (first | simp [-invQ_normal, a0, a1, a2, hg, g1, c2, wordC, aBin, aUn, pow2_ne, pow2_ne_i, eqCells, eqCell, int_beq, splice, alloc1_loc, box1_loc, bld, aFill] | simp (disch := omega) only [wrap_i64, wrap_u64, tmod_nn, tdiv_nn, idx_w, idx_i, app_w]))
      refine wpC_vals (ev_Same_ref ws o (by omega) _ _) (by simp) (by simp [isRow]) (by simp) (by first | simp | assumption) (by simp [plainArg, plain1, AVal.shared, AVal.shared.sharedOne, rawCell]) ⟨by simp, ?_⟩
      (repeat (first | simp [-invQ_normal, a0, a1, a2, hg, g1, c2, wordC, aBin, aUn, pow2_ne, pow2_ne_i, eqCells, eqCell, int_beq, splice, alloc1_loc, box1_loc, bld, aFill] | simp (disch := omega) only [wrap_i64, wrap_u64, tmod_nn, tdiv_nn, idx_w, idx_i, app_w]))
      refine wpC_vals (ev_Same_ref ws ws (by omega) _ _) (by simp) (by simp [isRow]) (by simp) (by first | simp | assumption) (by simp [plainArg, plain1, AVal.shared, AVal.shared.sharedOne, rawCell]) ⟨by simp, ?_⟩
      (repeat (first | simp [-invQ_normal, a0, a1, a2, hg, g1, c2, wordC, aBin, aUn, pow2_ne, pow2_ne_i, eqCells, eqCell, int_beq, splice, alloc1_loc, box1_loc, bld, aFill] | simp (disch := omega) only [wrap_i64, wrap_u64, tmod_nn, tdiv_nn, idx_w, idx_i, app_w]))
      refine aw_ret (retQ_vals (gs := gs) [.raw (.bool true)] (.inr rfl) ?_ (by simp [givenAs, AVal.fixed, rawCell]) (by (repeat (first | simp [-invQ_normal, a0, a1, a2, hg, g1, c2, wordC, aBin, aUn, pow2_ne, pow2_ne_i, eqCells, eqCell, int_beq, splice, alloc1_loc, box1_loc, bld, aFill] | simp (disch := omega) only [wrap_i64, wrap_u64, tmod_nn, tdiv_nn, idx_w, idx_i, app_w]))) (by rw [← hr0]; first | done | rfl))
      (repeat (first | simp [-invQ_normal, resultOf, a0, a1, a2, hg, g1, c2, wordC, aBin, aUn, pow2_ne, pow2_ne_i, eqCells, eqCell, int_beq, splice, alloc1_loc, box1_loc, bld, aFill] | simp (disch := omega) only [wrap_i64, wrap_u64, tmod_nn, tdiv_nn, idx_w, idx_i, app_w])) <;> (trace_state; sorry)

end Go.Proofs.YtjcgaelibiiiiaaDoor
