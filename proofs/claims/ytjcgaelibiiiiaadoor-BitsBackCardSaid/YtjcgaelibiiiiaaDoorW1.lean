/-
  WALKS over the abstract interpreter: the reference's and the program's functions on sets. Printed by this seat's own program (genwalk.py) out of door1.py.
-/
import Derived.Test.YtjcgaelibiiiiaaDoorFacts2
import Derived.Test.YtjcgaelibiiiiaaDoorPure
import Derived.Test.YtjcgaelibiiiiaaDoorExt
set_option linter.unusedVariables false
set_option linter.unusedSimpArgs false
namespace Go.Proofs.YtjcgaelibiiiiaaDoor
open Go.Abs

noncomputable abbrev E : Env := EX extL
theorem idx_w {l : List (Int × Int)} {k : IntKind} {z : Int} {m : Mem} (h0 : 0 ≤ z) (h : z < l.length) : idx E m 23 (.sl (l.map wordC)) (.raw (.int k z)) = some (.ip (wordC (l[z.toNat]'(by omega))), none) :=
  idx_map (e_E_under_23 _) (e_E_size_52 _) h0 h wordC_len (by decide)

set_option maxHeartbeats 800000 in
theorem ev_May (ws : List (Int × Int)) (hl : ws.length < 2 ^ 63) (base : Nat) (gs : GS)  : Evals E 27 [.sl (ws.map wordC)] base gs ([.v (.raw (.bool (goodI (-1) ws)))], gs) := by
  refine evals_walk 50 #[.tmp 2] rfl (by kernel_rfl) b27_eq (by kernel_rfl) (by kernel_rfl) (by simp) fun s hs hm => ?_
  have a0 : s.get 0 = .sl (ws.map wordC) := by simpa using hs 0
  have hg : s.m.gs = gs := by rw [hm]
  clear hs
  generalize hr0 : (([.v (.raw (.bool (goodI (-1) ws)))], gs) : List RV × GS) = r0
  unfold b27
  refine aw_seq (aw_region_q r27_0 ?_)
  (repeat (first | simp [-invQ_normal, l27_0, a0, hg, hl, wordC, aBin, aUn, pow2_ne, pow2_ne_i, eqCells, eqCell, int_beq, splice, alloc1_loc, box1_loc, bld, aFill] | simp (disch := omega) only [wrap_i64, wrap_u64, tmod_nn, tdiv_nn, idx_w]))
  refine aw_seq ?_
  refine aw_seq (aw_region_q r27_1 ?_)
  (repeat (first | simp [-invQ_normal, l27_1, a0, hg, hl, wordC, aBin, aUn, pow2_ne, pow2_ne_i, eqCells, eqCell, int_beq, splice, alloc1_loc, box1_loc, bld, aFill] | simp (disch := omega) only [wrap_i64, wrap_u64, tmod_nn, tdiv_nn, idx_w]))
  refine aw_block ?_
  obtain ⟨I2, hI2⟩ : ∃ I : Nat → St → Prop, I = fun k s => ∃ (i : Nat), k = ws.length - i ∧ s.get 0 = .sl (ws.map wordC) ∧ s.get 3 = .raw (.int .i64 i) ∧ s.m.gs = gs ∧ (i ≤ ws.length) ∧ (∀ j, j < i → mayAt ws j) := ⟨_, rfl⟩
  refine aw_inv2 I2 ?_ ?_
  · rw [hI2]
    refine ⟨_, 0, rfl, ?_⟩
    (repeat (first | simp [-invQ_normal, a0, hg, hl, wordC, aBin, aUn, pow2_ne, pow2_ne_i, eqCells, eqCell, int_beq, splice, alloc1_loc, box1_loc, bld, aFill] | simp (disch := omega) only [wrap_i64, wrap_u64, tmod_nn, tdiv_nn, idx_w])) <;> (simp at *)
  · intro k s hI0
    rw [hI2] at hI0
    obtain ⟨i, k3, i4_0, i5_3, hg, hi, hj⟩ := hI0
    unfold b27_L0
    refine aw_seq ?_
    refine aw_seq (aw_region_q r27_2 ?_)
    (repeat (first | simp [-invQ_normal, l27_2, hl, i4_0, i5_3, hg, wordC, aBin, aUn, pow2_ne, pow2_ne_i, eqCells, eqCell, int_beq, splice, alloc1_loc, box1_loc, bld, aFill] | simp (disch := omega) only [wrap_i64, wrap_u64, tmod_nn, tdiv_nn, idx_w]))
    refine aw_cond_v ?_
    (repeat (first | simp [-invQ_normal, hl, i4_0, i5_3, hg, wordC, aBin, aUn, pow2_ne, pow2_ne_i, eqCells, eqCell, int_beq, splice, alloc1_loc, box1_loc, bld, aFill] | simp (disch := omega) only [wrap_i64, wrap_u64, tmod_nn, tdiv_nn, idx_w]))
    refine condV_split ⟨_, rfl⟩ (fun c8 => ?_) (fun c8 => ?_)
    · simp only [AVal.raw.injEq, Value.bool.injEq, decide_eq_false_iff_not, decide_eq_true_eq, Bool.not_eq_true, Bool.not_eq_false, Bool.not_eq_eq_eq_not, Bool.not_true, Bool.not_false, Bool.and_eq_true, Bool.or_eq_true, Bool.or_eq_false_iff] at c8
      refine aw_skip ?_
      try simp only [seqQ_normal, seqQ_exit, seqQ_ret, blockQ_normal, blockQ_ret, blockQ_exit, invQ_exit, invQ_ret, endQ_eq, if_true, reduceIte, Nat.reduceEqDiff, reduceCtorEq]
      refine aw_seq ?_
      refine aw_block ?_
      refine aw_seq (aw_region_d r27_4 ?_)
      (repeat (first | simp [-invQ_normal, l27_4, hl, i4_0, i5_3, hg, c8, wordC, aBin, aUn, pow2_ne, pow2_ne_i, eqCells, eqCell, int_beq, splice, alloc1_loc, box1_loc, bld, aFill] | simp (disch := omega) only [wrap_i64, wrap_u64, tmod_nn, tdiv_nn, idx_w]))
      refine wpG_split ⟨_, rfl⟩ (fun g9 => ?_) (fun g9 => ?_)
      · simp only [AVal.raw.injEq, Value.bool.injEq, decide_eq_false_iff_not, decide_eq_true_eq, Bool.not_eq_true, Bool.not_eq_false, Bool.not_eq_eq_eq_not, Bool.not_true, Bool.not_false, Bool.and_eq_true, Bool.or_eq_true, Bool.or_eq_false_iff] at g9
        (repeat (first | simp [-invQ_normal, hl, i4_0, i5_3, hg, c8, g9, wordC, aBin, aUn, pow2_ne, pow2_ne_i, eqCells, eqCell, int_beq, splice, alloc1_loc, box1_loc, bld, aFill] | simp (disch := omega) only [wrap_i64, wrap_u64, tmod_nn, tdiv_nn, idx_w]))
        refine aw_cond_1 (by (repeat (first | simp [-invQ_normal, hl, i4_0, i5_3, hg, c8, g9, wordC, aBin, aUn, pow2_ne, pow2_ne_i, eqCells, eqCell, int_beq, splice, alloc1_loc, box1_loc, bld, aFill] | simp (disch := omega) only [wrap_i64, wrap_u64, tmod_nn, tdiv_nn, idx_w]))) ?_
        refine aw_seq (aw_region_q r27_5 ?_)
        (repeat (first | simp [-invQ_normal, l27_5, hl, i4_0, i5_3, hg, c8, g9, wordC, aBin, aUn, pow2_ne, pow2_ne_i, eqCells, eqCell, int_beq, splice, alloc1_loc, box1_loc, bld, aFill] | simp (disch := omega) only [wrap_i64, wrap_u64, tmod_nn, tdiv_nn, idx_w]))
        refine aw_ret (retQ_vals (gs := gs) [.raw (.bool (goodI (-1) ws))] (.inr rfl) ?_ (by simp [givenAs, AVal.fixed, rawCell]) (by (repeat (first | simp [-invQ_normal, hl, i4_0, i5_3, hg, c8, g9, wordC, aBin, aUn, pow2_ne, pow2_ne_i, eqCells, eqCell, int_beq, splice, alloc1_loc, box1_loc, bld, aFill] | simp (disch := omega) only [wrap_i64, wrap_u64, tmod_nn, tdiv_nn, idx_w]))) (by rw [← hr0]; first | done | rfl))
        (repeat (first | simp [-invQ_normal, resultOf, hl, i4_0, i5_3, hg, c8, g9, wordC, aBin, aUn, pow2_ne, pow2_ne_i, eqCells, eqCell, int_beq, splice, alloc1_loc, box1_loc, bld, aFill] | simp (disch := omega) only [wrap_i64, wrap_u64, tmod_nn, tdiv_nn, idx_w])) <;> (first | exact goodI_all (fun j h => hj j (by omega)) | exact goodI_false (i := i) (fun h => by have h1 := h _ (List.getElem?_eq_getElem (by assumption)); first | omega | (have := h1.2.2.2 _ (by assumption) (List.getElem?_eq_getElem (by omega)); omega)))
      · simp only [AVal.raw.injEq, Value.bool.injEq, decide_eq_false_iff_not, decide_eq_true_eq, Bool.not_eq_true, Bool.not_eq_false, Bool.not_eq_eq_eq_not, Bool.not_true, Bool.not_false, Bool.and_eq_true, Bool.or_eq_true, Bool.or_eq_false_iff] at g9
        (repeat (first | simp [-invQ_normal, hl, i4_0, i5_3, hg, c8, g9, wordC, aBin, aUn, pow2_ne, pow2_ne_i, eqCells, eqCell, int_beq, splice, alloc1_loc, box1_loc, bld, aFill] | simp (disch := omega) only [wrap_i64, wrap_u64, tmod_nn, tdiv_nn, idx_w]))
        refine wpG_split ⟨_, rfl⟩ (fun g10 => ?_) (fun g10 => ?_)
        · simp only [AVal.raw.injEq, Value.bool.injEq, decide_eq_false_iff_not, decide_eq_true_eq, Bool.not_eq_true, Bool.not_eq_false, Bool.not_eq_eq_eq_not, Bool.not_true, Bool.not_false, Bool.and_eq_true, Bool.or_eq_true, Bool.or_eq_false_iff] at g10
          (repeat (first | simp [-invQ_normal, hl, i4_0, i5_3, hg, c8, g9, g10, wordC, aBin, aUn, pow2_ne, pow2_ne_i, eqCells, eqCell, int_beq, splice, alloc1_loc, box1_loc, bld, aFill] | simp (disch := omega) only [wrap_i64, wrap_u64, tmod_nn, tdiv_nn, idx_w]))
          refine aw_cond_1 (by (repeat (first | simp [-invQ_normal, hl, i4_0, i5_3, hg, c8, g9, g10, wordC, aBin, aUn, pow2_ne, pow2_ne_i, eqCells, eqCell, int_beq, splice, alloc1_loc, box1_loc, bld, aFill] | simp (disch := omega) only [wrap_i64, wrap_u64, tmod_nn, tdiv_nn, idx_w]))) ?_
          refine aw_seq (aw_region_q r27_5 ?_)
          (repeat (first | simp [-invQ_normal, l27_5, hl, i4_0, i5_3, hg, c8, g9, g10, wordC, aBin, aUn, pow2_ne, pow2_ne_i, eqCells, eqCell, int_beq, splice, alloc1_loc, box1_loc, bld, aFill] | simp (disch := omega) only [wrap_i64, wrap_u64, tmod_nn, tdiv_nn, idx_w]))
          refine aw_ret (retQ_vals (gs := gs) [.raw (.bool (goodI (-1) ws))] (.inr rfl) ?_ (by simp [givenAs, AVal.fixed, rawCell]) (by (repeat (first | simp [-invQ_normal, hl, i4_0, i5_3, hg, c8, g9, g10, wordC, aBin, aUn, pow2_ne, pow2_ne_i, eqCells, eqCell, int_beq, splice, alloc1_loc, box1_loc, bld, aFill] | simp (disch := omega) only [wrap_i64, wrap_u64, tmod_nn, tdiv_nn, idx_w]))) (by rw [← hr0]; first | done | rfl))
          (repeat (first | simp [-invQ_normal, resultOf, hl, i4_0, i5_3, hg, c8, g9, g10, wordC, aBin, aUn, pow2_ne, pow2_ne_i, eqCells, eqCell, int_beq, splice, alloc1_loc, box1_loc, bld, aFill] | simp (disch := omega) only [wrap_i64, wrap_u64, tmod_nn, tdiv_nn, idx_w])) <;> (first | exact goodI_all (fun j h => hj j (by omega)) | exact goodI_false (i := i) (fun h => by have h1 := h _ (List.getElem?_eq_getElem (by assumption)); first | omega | (have := h1.2.2.2 _ (by assumption) (List.getElem?_eq_getElem (by omega)); omega)))
        · simp only [AVal.raw.injEq, Value.bool.injEq, decide_eq_false_iff_not, decide_eq_true_eq, Bool.not_eq_true, Bool.not_eq_false, Bool.not_eq_eq_eq_not, Bool.not_true, Bool.not_false, Bool.and_eq_true, Bool.or_eq_true, Bool.or_eq_false_iff] at g10
          (repeat (first | simp [-invQ_normal, hl, i4_0, i5_3, hg, c8, g9, g10, wordC, aBin, aUn, pow2_ne, pow2_ne_i, eqCells, eqCell, int_beq, splice, alloc1_loc, box1_loc, bld, aFill] | simp (disch := omega) only [wrap_i64, wrap_u64, tmod_nn, tdiv_nn, idx_w]))
          refine wpG_split ⟨_, rfl⟩ (fun g11 => ?_) (fun g11 => ?_)
          · simp only [AVal.raw.injEq, Value.bool.injEq, decide_eq_false_iff_not, decide_eq_true_eq, Bool.not_eq_true, Bool.not_eq_false, Bool.not_eq_eq_eq_not, Bool.not_true, Bool.not_false, Bool.and_eq_true, Bool.or_eq_true, Bool.or_eq_false_iff] at g11
            (repeat (first | simp [-invQ_normal, hl, i4_0, i5_3, hg, c8, g9, g10, g11, wordC, aBin, aUn, pow2_ne, pow2_ne_i, eqCells, eqCell, int_beq, splice, alloc1_loc, box1_loc, bld, aFill] | simp (disch := omega) only [wrap_i64, wrap_u64, tmod_nn, tdiv_nn, idx_w]))
            refine aw_cond_1 (by (repeat (first | simp [-invQ_normal, hl, i4_0, i5_3, hg, c8, g9, g10, g11, wordC, aBin, aUn, pow2_ne, pow2_ne_i, eqCells, eqCell, int_beq, splice, alloc1_loc, box1_loc, bld, aFill] | simp (disch := omega) only [wrap_i64, wrap_u64, tmod_nn, tdiv_nn, idx_w]))) ?_
            refine aw_seq (aw_region_q r27_5 ?_)
            (repeat (first | simp [-invQ_normal, l27_5, hl, i4_0, i5_3, hg, c8, g9, g10, g11, wordC, aBin, aUn, pow2_ne, pow2_ne_i, eqCells, eqCell, int_beq, splice, alloc1_loc, box1_loc, bld, aFill] | simp (disch := omega) only [wrap_i64, wrap_u64, tmod_nn, tdiv_nn, idx_w]))
            refine aw_ret (retQ_vals (gs := gs) [.raw (.bool (goodI (-1) ws))] (.inr rfl) ?_ (by simp [givenAs, AVal.fixed, rawCell]) (by (repeat (first | simp [-invQ_normal, hl, i4_0, i5_3, hg, c8, g9, g10, g11, wordC, aBin, aUn, pow2_ne, pow2_ne_i, eqCells, eqCell, int_beq, splice, alloc1_loc, box1_loc, bld, aFill] | simp (disch := omega) only [wrap_i64, wrap_u64, tmod_nn, tdiv_nn, idx_w]))) (by rw [← hr0]; first | done | rfl))
            (repeat (first | simp [-invQ_normal, resultOf, hl, i4_0, i5_3, hg, c8, g9, g10, g11, wordC, aBin, aUn, pow2_ne, pow2_ne_i, eqCells, eqCell, int_beq, splice, alloc1_loc, box1_loc, bld, aFill] | simp (disch := omega) only [wrap_i64, wrap_u64, tmod_nn, tdiv_nn, idx_w])) <;> (first | exact goodI_all (fun j h => hj j (by omega)) | exact goodI_false (i := i) (fun h => by have h1 := h _ (List.getElem?_eq_getElem (by assumption)); first | omega | (have := h1.2.2.2 _ (by assumption) (List.getElem?_eq_getElem (by omega)); omega)))
          · simp only [AVal.raw.injEq, Value.bool.injEq, decide_eq_false_iff_not, decide_eq_true_eq, Bool.not_eq_true, Bool.not_eq_false, Bool.not_eq_eq_eq_not, Bool.not_true, Bool.not_false, Bool.and_eq_true, Bool.or_eq_true, Bool.or_eq_false_iff] at g11
            (repeat (first | simp [-invQ_normal, hl, i4_0, i5_3, hg, c8, g9, g10, g11, wordC, aBin, aUn, pow2_ne, pow2_ne_i, eqCells, eqCell, int_beq, splice, alloc1_loc, box1_loc, bld, aFill] | simp (disch := omega) only [wrap_i64, wrap_u64, tmod_nn, tdiv_nn, idx_w]))
            refine wpG_split ⟨_, rfl⟩ (fun g12 => ?_) (fun g12 => ?_)
            · simp only [AVal.raw.injEq, Value.bool.injEq, decide_eq_false_iff_not, decide_eq_true_eq, Bool.not_eq_true, Bool.not_eq_false, Bool.not_eq_eq_eq_not, Bool.not_true, Bool.not_false, Bool.and_eq_true, Bool.or_eq_true, Bool.or_eq_false_iff] at g12
              (repeat (first | simp [-invQ_normal, hl, i4_0, i5_3, hg, c8, g9, g10, g11, g12, wordC, aBin, aUn, pow2_ne, pow2_ne_i, eqCells, eqCell, int_beq, splice, alloc1_loc, box1_loc, bld, aFill] | simp (disch := omega) only [wrap_i64, wrap_u64, tmod_nn, tdiv_nn, idx_w]))
              refine aw_cond_v ?_
              (repeat (first | simp [-invQ_normal, hl, i4_0, i5_3, hg, c8, g9, g10, g11, g12, wordC, aBin, aUn, pow2_ne, pow2_ne_i, eqCells, eqCell, int_beq, splice, alloc1_loc, box1_loc, bld, aFill] | simp (disch := omega) only [wrap_i64, wrap_u64, tmod_nn, tdiv_nn, idx_w]))
              refine condV_split ⟨_, rfl⟩ (fun c13 => ?_) (fun c13 => ?_)
              · simp only [AVal.raw.injEq, Value.bool.injEq, decide_eq_false_iff_not, decide_eq_true_eq, Bool.not_eq_true, Bool.not_eq_false, Bool.not_eq_eq_eq_not, Bool.not_true, Bool.not_false, Bool.and_eq_true, Bool.or_eq_true, Bool.or_eq_false_iff] at c13
                refine aw_seq (aw_region_q r27_5 ?_)
                (repeat (first | simp [-invQ_normal, l27_5, hl, i4_0, i5_3, hg, c8, g9, g10, g11, g12, c13, wordC, aBin, aUn, pow2_ne, pow2_ne_i, eqCells, eqCell, int_beq, splice, alloc1_loc, box1_loc, bld, aFill] | simp (disch := omega) only [wrap_i64, wrap_u64, tmod_nn, tdiv_nn, idx_w]))
                refine aw_ret (retQ_vals (gs := gs) [.raw (.bool (goodI (-1) ws))] (.inr rfl) ?_ (by simp [givenAs, AVal.fixed, rawCell]) (by (repeat (first | simp [-invQ_normal, hl, i4_0, i5_3, hg, c8, g9, g10, g11, g12, c13, wordC, aBin, aUn, pow2_ne, pow2_ne_i, eqCells, eqCell, int_beq, splice, alloc1_loc, box1_loc, bld, aFill] | simp (disch := omega) only [wrap_i64, wrap_u64, tmod_nn, tdiv_nn, idx_w]))) (by rw [← hr0]; first | done | rfl))
                (repeat (first | simp [-invQ_normal, resultOf, hl, i4_0, i5_3, hg, c8, g9, g10, g11, g12, c13, wordC, aBin, aUn, pow2_ne, pow2_ne_i, eqCells, eqCell, int_beq, splice, alloc1_loc, box1_loc, bld, aFill] | simp (disch := omega) only [wrap_i64, wrap_u64, tmod_nn, tdiv_nn, idx_w])) <;> (first | exact goodI_all (fun j h => hj j (by omega)) | exact goodI_false (i := i) (fun h => by have h1 := h _ (List.getElem?_eq_getElem (by assumption)); first | omega | (have := h1.2.2.2 _ (by assumption) (List.getElem?_eq_getElem (by omega)); omega)))
              · simp only [AVal.raw.injEq, Value.bool.injEq, decide_eq_false_iff_not, decide_eq_true_eq, Bool.not_eq_true, Bool.not_eq_false, Bool.not_eq_eq_eq_not, Bool.not_true, Bool.not_false, Bool.and_eq_true, Bool.or_eq_true, Bool.or_eq_false_iff] at c13
                refine aw_skip ?_
                try simp only [seqQ_normal, seqQ_exit, seqQ_ret, blockQ_normal, blockQ_ret, blockQ_exit, invQ_exit, invQ_ret, endQ_eq, if_true, reduceIte, Nat.reduceEqDiff, reduceCtorEq]
                refine aw_region_q r27_3 ?_
                (repeat (first | simp [-invQ_normal, l27_3, hl, i4_0, i5_3, hg, c8, g9, g10, g11, g12, c13, wordC, aBin, aUn, pow2_ne, pow2_ne_i, eqCells, eqCell, int_beq, splice, alloc1_loc, box1_loc, bld, aFill] | simp (disch := omega) only [wrap_i64, wrap_u64, tmod_nn, tdiv_nn, idx_w]))
                -- cont 0: t7=T t15=F t22=F t30=F t34=T t47=F
                simp only [invQ_normal]
                rw [hI2]
                refine ⟨_, ?_, i + 1, rfl, ?_⟩
                · omega
                · (repeat (first | simp [-invQ_normal, hl, i4_0, i5_3, hg, c8, g9, g10, g11, g12, c13, wordC, aBin, aUn, pow2_ne, pow2_ne_i, eqCells, eqCell, int_beq, splice, alloc1_loc, box1_loc, bld, aFill] | simp (disch := omega) only [wrap_i64, wrap_u64, tmod_nn, tdiv_nn, idx_w])) <;> (refine ⟨by omega, fun j hjl => ?_⟩; rcases Nat.lt_or_ge j i with h | h; exact hj j h; obtain rfl : j = i := (by omega); intro p hp; rw [List.getElem?_eq_getElem (by omega)] at hp; cases hp; refine ⟨by omega, by omega, by omega, fun q hq hq2 => ?_⟩; rw [List.getElem?_eq_getElem (by omega)] at hq2; cases hq2; omega)
            · simp only [AVal.raw.injEq, Value.bool.injEq, decide_eq_false_iff_not, decide_eq_true_eq, Bool.not_eq_true, Bool.not_eq_false, Bool.not_eq_eq_eq_not, Bool.not_true, Bool.not_false, Bool.and_eq_true, Bool.or_eq_true, Bool.or_eq_false_iff] at g12
              (repeat (first | simp [-invQ_normal, hl, i4_0, i5_3, hg, c8, g9, g10, g11, g12, wordC, aBin, aUn, pow2_ne, pow2_ne_i, eqCells, eqCell, int_beq, splice, alloc1_loc, box1_loc, bld, aFill] | simp (disch := omega) only [wrap_i64, wrap_u64, tmod_nn, tdiv_nn, idx_w]))
              refine aw_cond_0 (by (repeat (first | simp [-invQ_normal, hl, i4_0, i5_3, hg, c8, g9, g10, g11, g12, wordC, aBin, aUn, pow2_ne, pow2_ne_i, eqCells, eqCell, int_beq, splice, alloc1_loc, box1_loc, bld, aFill] | simp (disch := omega) only [wrap_i64, wrap_u64, tmod_nn, tdiv_nn, idx_w]))) ?_
              refine aw_skip ?_
              try simp only [seqQ_normal, seqQ_exit, seqQ_ret, blockQ_normal, blockQ_ret, blockQ_exit, invQ_exit, invQ_ret, endQ_eq, if_true, reduceIte, Nat.reduceEqDiff, reduceCtorEq]
              refine aw_region_q r27_3 ?_
              (repeat (first | simp [-invQ_normal, l27_3, hl, i4_0, i5_3, hg, c8, g9, g10, g11, g12, wordC, aBin, aUn, pow2_ne, pow2_ne_i, eqCells, eqCell, int_beq, splice, alloc1_loc, box1_loc, bld, aFill] | simp (disch := omega) only [wrap_i64, wrap_u64, tmod_nn, tdiv_nn, idx_w]))
              -- cont 1: t7=T t15=F t22=F t30=F t34=F
              simp only [invQ_normal]
              rw [hI2]
              refine ⟨_, ?_, i + 1, rfl, ?_⟩
              · omega
              · (repeat (first | simp [-invQ_normal, hl, i4_0, i5_3, hg, c8, g9, g10, g11, g12, wordC, aBin, aUn, pow2_ne, pow2_ne_i, eqCells, eqCell, int_beq, splice, alloc1_loc, box1_loc, bld, aFill] | simp (disch := omega) only [wrap_i64, wrap_u64, tmod_nn, tdiv_nn, idx_w])) <;> (refine ⟨by omega, fun j hjl => ?_⟩; rcases Nat.lt_or_ge j i with h | h; exact hj j h; obtain rfl : j = i := (by omega); intro p hp; rw [List.getElem?_eq_getElem (by omega)] at hp; cases hp; refine ⟨by omega, by omega, by omega, fun q hq hq2 => ?_⟩; rw [List.getElem?_eq_getElem (by omega)] at hq2; cases hq2; omega)
    · simp only [AVal.raw.injEq, Value.bool.injEq, decide_eq_false_iff_not, decide_eq_true_eq, Bool.not_eq_true, Bool.not_eq_false, Bool.not_eq_eq_eq_not, Bool.not_true, Bool.not_false, Bool.and_eq_true, Bool.or_eq_true, Bool.or_eq_false_iff] at c8
      refine aw_exit ?_
      try simp only [seqQ_normal, seqQ_exit, seqQ_ret, blockQ_normal, blockQ_ret, blockQ_exit, invQ_exit, invQ_ret, endQ_eq, if_true, reduceIte, Nat.reduceEqDiff, reduceCtorEq]
      refine aw_seq (aw_region_q r27_6 ?_)
      (repeat (first | simp [-invQ_normal, l27_6, hl, i4_0, i5_3, hg, c8, wordC, aBin, aUn, pow2_ne, pow2_ne_i, eqCells, eqCell, int_beq, splice, alloc1_loc, box1_loc, bld, aFill] | simp (disch := omega) only [wrap_i64, wrap_u64, tmod_nn, tdiv_nn, idx_w]))
      refine aw_ret (retQ_vals (gs := gs) [.raw (.bool (goodI (-1) ws))] (.inr rfl) ?_ (by simp [givenAs, AVal.fixed, rawCell]) (by (repeat (first | simp [-invQ_normal, hl, i4_0, i5_3, hg, c8, wordC, aBin, aUn, pow2_ne, pow2_ne_i, eqCells, eqCell, int_beq, splice, alloc1_loc, box1_loc, bld, aFill] | simp (disch := omega) only [wrap_i64, wrap_u64, tmod_nn, tdiv_nn, idx_w]))) (by rw [← hr0]; first | done | rfl))
      (repeat (first | simp [-invQ_normal, resultOf, hl, i4_0, i5_3, hg, c8, wordC, aBin, aUn, pow2_ne, pow2_ne_i, eqCells, eqCell, int_beq, splice, alloc1_loc, box1_loc, bld, aFill] | simp (disch := omega) only [wrap_i64, wrap_u64, tmod_nn, tdiv_nn, idx_w])) <;> (first | exact goodI_all (fun j h => hj j (by omega)) | exact goodI_false (i := i) (fun h => by have h1 := h _ (List.getElem?_eq_getElem (by assumption)); first | omega | (have := h1.2.2.2 _ (by assumption) (List.getElem?_eq_getElem (by omega)); omega)))
set_option maxHeartbeats 800000 in
theorem ev_Check_ref (ws : List (Int × Int)) (hl : ws.length < 2 ^ 63) (base : Nat) (gs : GS)  : Evals E 16 [.sl (ws.map wordC)] base gs ([.v (.raw (.int .i64 (if goodI (-1) ws then 0 else 8)))], gs) := by
  refine evals_walk 6 #[.tmp 2] rfl (by kernel_rfl) b16_eq (by kernel_rfl) (by kernel_rfl) (by simp) fun s hs hm => ?_
  have a0 : s.get 0 = .sl (ws.map wordC) := by simpa using hs 0
  have hg : s.m.gs = gs := by rw [hm]
  clear hs
  generalize hr0 : (([.v (.raw (.int .i64 (if goodI (-1) ws then 0 else 8)))], gs) : List RV × GS) = r0
  unfold b16
  refine aw_seq (aw_region_q r16_0 ?_)
  (repeat (first | simp [-invQ_normal, l16_0, a0, hg, hl, wordC, aBin, aUn, pow2_ne, pow2_ne_i, eqCells, eqCell, int_beq, splice, alloc1_loc, box1_loc, bld, aFill] | simp (disch := omega) only [wrap_i64, wrap_u64, tmod_nn, tdiv_nn, idx_w]))
  refine aw_seq ?_
  refine aw_seq (aw_region_q r16_1 ?_)
  (repeat (first | simp [-invQ_normal, l16_1, a0, hg, hl, wordC, aBin, aUn, pow2_ne, pow2_ne_i, eqCells, eqCell, int_beq, splice, alloc1_loc, box1_loc, bld, aFill] | simp (disch := omega) only [wrap_i64, wrap_u64, tmod_nn, tdiv_nn, idx_w]))
  refine wpC_vals (ev_May _ (by omega) _ _) (by simp) (by simp [isRow]) (by simp) (by first | simp | assumption) (by simp [plainArg, plain1, AVal.shared, AVal.shared.sharedOne, rawCell]) ⟨by simp, ?_⟩
  (repeat (first | simp [-invQ_normal, a0, hg, hl, wordC, aBin, aUn, pow2_ne, pow2_ne_i, eqCells, eqCell, int_beq, splice, alloc1_loc, box1_loc, bld, aFill] | simp (disch := omega) only [wrap_i64, wrap_u64, tmod_nn, tdiv_nn, idx_w]))
  refine aw_cond_v ?_
  (repeat (first | simp [-invQ_normal, a0, hg, hl, wordC, aBin, aUn, pow2_ne, pow2_ne_i, eqCells, eqCell, int_beq, splice, alloc1_loc, box1_loc, bld, aFill] | simp (disch := omega) only [wrap_i64, wrap_u64, tmod_nn, tdiv_nn, idx_w]))
  refine condV_split ⟨_, rfl⟩ (fun c2 => ?_) (fun c2 => ?_)
  · simp only [AVal.raw.injEq, Value.bool.injEq, decide_eq_false_iff_not, decide_eq_true_eq, Bool.not_eq_true, Bool.not_eq_false, Bool.not_eq_eq_eq_not, Bool.not_true, Bool.not_false, Bool.and_eq_true, Bool.or_eq_true, Bool.or_eq_false_iff] at c2
    refine aw_seq (aw_region_q r16_2 ?_)
    (repeat (first | simp [-invQ_normal, l16_2, a0, hg, hl, c2, wordC, aBin, aUn, pow2_ne, pow2_ne_i, eqCells, eqCell, int_beq, splice, alloc1_loc, box1_loc, bld, aFill] | simp (disch := omega) only [wrap_i64, wrap_u64, tmod_nn, tdiv_nn, idx_w]))
    refine aw_ret (retQ_vals (gs := gs) [.raw (.int .i64 (if goodI (-1) ws then 0 else 8))] (.inr rfl) ?_ (by simp [givenAs, AVal.fixed, rawCell]) (by (repeat (first | simp [-invQ_normal, a0, hg, hl, c2, wordC, aBin, aUn, pow2_ne, pow2_ne_i, eqCells, eqCell, int_beq, splice, alloc1_loc, box1_loc, bld, aFill] | simp (disch := omega) only [wrap_i64, wrap_u64, tmod_nn, tdiv_nn, idx_w]))) (by rw [← hr0]; first | done | rfl))
    (repeat (first | simp [-invQ_normal, resultOf, a0, hg, hl, c2, wordC, aBin, aUn, pow2_ne, pow2_ne_i, eqCells, eqCell, int_beq, splice, alloc1_loc, box1_loc, bld, aFill] | simp (disch := omega) only [wrap_i64, wrap_u64, tmod_nn, tdiv_nn, idx_w])) <;> (simp_all)
  · simp only [AVal.raw.injEq, Value.bool.injEq, decide_eq_false_iff_not, decide_eq_true_eq, Bool.not_eq_true, Bool.not_eq_false, Bool.not_eq_eq_eq_not, Bool.not_true, Bool.not_false, Bool.and_eq_true, Bool.or_eq_true, Bool.or_eq_false_iff] at c2
    refine aw_skip ?_
    try simp only [seqQ_normal, seqQ_exit, seqQ_ret, blockQ_normal, blockQ_ret, blockQ_exit, invQ_exit, invQ_ret, endQ_eq, if_true, reduceIte, Nat.reduceEqDiff, reduceCtorEq]
    refine aw_seq (aw_region_q r16_3 ?_)
    (repeat (first | simp [-invQ_normal, l16_3, a0, hg, hl, c2, wordC, aBin, aUn, pow2_ne, pow2_ne_i, eqCells, eqCell, int_beq, splice, alloc1_loc, box1_loc, bld, aFill] | simp (disch := omega) only [wrap_i64, wrap_u64, tmod_nn, tdiv_nn, idx_w]))
    refine aw_ret (retQ_vals (gs := gs) [.raw (.int .i64 (if goodI (-1) ws then 0 else 8))] (.inr rfl) ?_ (by simp [givenAs, AVal.fixed, rawCell]) (by (repeat (first | simp [-invQ_normal, a0, hg, hl, c2, wordC, aBin, aUn, pow2_ne, pow2_ne_i, eqCells, eqCell, int_beq, splice, alloc1_loc, box1_loc, bld, aFill] | simp (disch := omega) only [wrap_i64, wrap_u64, tmod_nn, tdiv_nn, idx_w]))) (by rw [← hr0]; first | done | rfl))
    (repeat (first | simp [-invQ_normal, resultOf, a0, hg, hl, c2, wordC, aBin, aUn, pow2_ne, pow2_ne_i, eqCells, eqCell, int_beq, splice, alloc1_loc, box1_loc, bld, aFill] | simp (disch := omega) only [wrap_i64, wrap_u64, tmod_nn, tdiv_nn, idx_w])) <;> (simp_all)
set_option maxHeartbeats 800000 in
theorem ev_bit (n : Nat) (hn : n < 9223372036854775808) (base : Nat) (gs : GS)  : Evals E 43 [.raw (.int .i64 n)] base gs ([.v (.raw (.int .u64 ((2 ^ (n % 64) : Nat) : Int)))], gs) := by
  refine evals_walk 14 #[.tmp 2] rfl (by kernel_rfl) b43_eq (by kernel_rfl) (by kernel_rfl) (by simp) fun s hs hm => ?_
  have a0 : s.get 0 = .raw (.int .i64 n) := by simpa using hs 0
  have hg : s.m.gs = gs := by rw [hm]
  clear hs
  generalize hr0 : (([.v (.raw (.int .u64 ((2 ^ (n % 64) : Nat) : Int)))], gs) : List RV × GS) = r0
  unfold b43
  refine aw_seq (aw_region_q r43_0 ?_)
  (repeat (first | simp [-invQ_normal, l43_0, a0, hg, hn, wordC, aBin, aUn, pow2_ne, pow2_ne_i, eqCells, eqCell, int_beq, splice, alloc1_loc, box1_loc, bld, aFill] | simp (disch := omega) only [wrap_i64, wrap_u64, tmod_nn, tdiv_nn, idx_w]))
  refine aw_seq (aw_region_q r43_1 ?_)
  (repeat (first | simp [-invQ_normal, l43_1, a0, hg, hn, wordC, aBin, aUn, pow2_ne, pow2_ne_i, eqCells, eqCell, int_beq, splice, alloc1_loc, box1_loc, bld, aFill] | simp (disch := omega) only [wrap_i64, wrap_u64, tmod_nn, tdiv_nn, idx_w]))
  refine aw_seq ?_
  refine aw_seq (aw_region_q r43_2 ?_)
  (repeat (first | simp [-invQ_normal, l43_2, a0, hg, hn, wordC, aBin, aUn, pow2_ne, pow2_ne_i, eqCells, eqCell, int_beq, splice, alloc1_loc, box1_loc, bld, aFill] | simp (disch := omega) only [wrap_i64, wrap_u64, tmod_nn, tdiv_nn, idx_w]))
  refine aw_block ?_
  obtain ⟨I4, hI4⟩ : ∃ I : Nat → St → Prop, I = fun k s => ∃ (i : Nat), k = n % 64 - i ∧ s.get 0 = .raw (.int .i64 n) ∧ s.get 3 = .raw (.int .u64 ((2 ^ i : Nat) : Int)) ∧ s.get 4 = .raw (.int .i64 i) ∧ s.m.gs = gs ∧ (i ≤ n % 64) := ⟨_, rfl⟩
  refine aw_inv2 I4 ?_ ?_
  · rw [hI4]
    refine ⟨_, 0, rfl, ?_⟩
    (repeat (first | simp [-invQ_normal, a0, hg, hn, wordC, aBin, aUn, pow2_ne, pow2_ne_i, eqCells, eqCell, int_beq, splice, alloc1_loc, box1_loc, bld, aFill] | simp (disch := omega) only [wrap_i64, wrap_u64, tmod_nn, tdiv_nn, idx_w]))
  · intro k s hI0
    rw [hI4] at hI0
    obtain ⟨i, k5, i6_0, i7_3, i8_4, hg, hi⟩ := hI0
    unfold b43_L0
    refine aw_seq ?_
    refine aw_seq (aw_region_q r43_3 ?_)
    (repeat (first | simp [-invQ_normal, l43_3, hn, i6_0, i7_3, i8_4, hg, wordC, aBin, aUn, pow2_ne, pow2_ne_i, eqCells, eqCell, int_beq, splice, alloc1_loc, box1_loc, bld, aFill] | simp (disch := omega) only [wrap_i64, wrap_u64, tmod_nn, tdiv_nn, idx_w]))
    refine aw_cond_v ?_
    (repeat (first | simp [-invQ_normal, hn, i6_0, i7_3, i8_4, hg, wordC, aBin, aUn, pow2_ne, pow2_ne_i, eqCells, eqCell, int_beq, splice, alloc1_loc, box1_loc, bld, aFill] | simp (disch := omega) only [wrap_i64, wrap_u64, tmod_nn, tdiv_nn, idx_w]))
    refine condV_split ⟨_, rfl⟩ (fun c10 => ?_) (fun c10 => ?_)
    · simp only [AVal.raw.injEq, Value.bool.injEq, decide_eq_false_iff_not, decide_eq_true_eq, Bool.not_eq_true, Bool.not_eq_false, Bool.not_eq_eq_eq_not, Bool.not_true, Bool.not_false, Bool.and_eq_true, Bool.or_eq_true, Bool.or_eq_false_iff] at c10
      refine aw_skip ?_
      try simp only [seqQ_normal, seqQ_exit, seqQ_ret, blockQ_normal, blockQ_ret, blockQ_exit, invQ_exit, invQ_ret, endQ_eq, if_true, reduceIte, Nat.reduceEqDiff, reduceCtorEq]
      refine aw_seq ?_
      refine aw_block ?_
      refine aw_region_q r43_5 ?_
      (repeat (first | simp [-invQ_normal, l43_5, hn, i6_0, i7_3, i8_4, hg, c10, wordC, aBin, aUn, pow2_ne, pow2_ne_i, eqCells, eqCell, int_beq, splice, alloc1_loc, box1_loc, bld, aFill] | simp (disch := omega) only [wrap_i64, wrap_u64, tmod_nn, tdiv_nn, idx_w]))
      refine aw_region_q r43_4 ?_
      (repeat (first | simp [-invQ_normal, l43_4, hn, i6_0, i7_3, i8_4, hg, c10, wordC, aBin, aUn, pow2_ne, pow2_ne_i, eqCells, eqCell, int_beq, splice, alloc1_loc, box1_loc, bld, aFill] | simp (disch := omega) only [wrap_i64, wrap_u64, tmod_nn, tdiv_nn, idx_w]))
      -- cont 0: t8=T
      simp only [invQ_normal]
      rw [hI4]
      refine ⟨_, ?_, i + 1, rfl, ?_⟩
      · omega
      · (repeat (first | simp [-invQ_normal, hn, i6_0, i7_3, i8_4, hg, c10, wordC, aBin, aUn, pow2_ne, pow2_ne_i, eqCells, eqCell, int_beq, splice, alloc1_loc, box1_loc, bld, aFill] | simp (disch := omega) only [wrap_i64, wrap_u64, tmod_nn, tdiv_nn, idx_w])) <;> (exact ⟨wrap_dbl (by omega), by omega⟩)
    · simp only [AVal.raw.injEq, Value.bool.injEq, decide_eq_false_iff_not, decide_eq_true_eq, Bool.not_eq_true, Bool.not_eq_false, Bool.not_eq_eq_eq_not, Bool.not_true, Bool.not_false, Bool.and_eq_true, Bool.or_eq_true, Bool.or_eq_false_iff] at c10
      refine aw_exit ?_
      try simp only [seqQ_normal, seqQ_exit, seqQ_ret, blockQ_normal, blockQ_ret, blockQ_exit, invQ_exit, invQ_ret, endQ_eq, if_true, reduceIte, Nat.reduceEqDiff, reduceCtorEq]
      refine aw_seq (aw_region_q r43_6 ?_)
      (repeat (first | simp [-invQ_normal, l43_6, hn, i6_0, i7_3, i8_4, hg, c10, wordC, aBin, aUn, pow2_ne, pow2_ne_i, eqCells, eqCell, int_beq, splice, alloc1_loc, box1_loc, bld, aFill] | simp (disch := omega) only [wrap_i64, wrap_u64, tmod_nn, tdiv_nn, idx_w]))
      refine aw_ret (retQ_vals (gs := gs) [.raw (.int .u64 ((2 ^ (n % 64) : Nat) : Int))] (.inr rfl) ?_ (by simp [givenAs, AVal.fixed, rawCell]) (by (repeat (first | simp [-invQ_normal, hn, i6_0, i7_3, i8_4, hg, c10, wordC, aBin, aUn, pow2_ne, pow2_ne_i, eqCells, eqCell, int_beq, splice, alloc1_loc, box1_loc, bld, aFill] | simp (disch := omega) only [wrap_i64, wrap_u64, tmod_nn, tdiv_nn, idx_w]))) (by rw [← hr0]; first | done | rfl))
      (repeat (first | simp [-invQ_normal, resultOf, hn, i6_0, i7_3, i8_4, hg, c10, wordC, aBin, aUn, pow2_ne, pow2_ne_i, eqCells, eqCell, int_beq, splice, alloc1_loc, box1_loc, bld, aFill] | simp (disch := omega) only [wrap_i64, wrap_u64, tmod_nn, tdiv_nn, idx_w])) <;> ((congr 1; omega))
set_option maxHeartbeats 800000 in
theorem ev_In (ws : List (Int × Int)) (hl : ws.length < 2 ^ 63) (hb : bits64 ws) (n : Nat) (hn : n < 9223372036854775808) (base : Nat) (gs : GS)  : Evals E 32 [.sl (ws.map wordC), .raw (.int .i64 n)] base gs ([.v (.raw (.bool (inI ws n)))], gs) := by
  refine evals_walk 30 #[.tmp 4] rfl (by kernel_rfl) b32_eq (by kernel_rfl) (by kernel_rfl) (by simp) fun s hs hm => ?_
  have a0 : s.get 0 = .sl (ws.map wordC) := by simpa using hs 0
  have a1 : s.get 1 = .raw (.int .i64 n) := by simpa using hs 1
  have hg : s.m.gs = gs := by rw [hm]
  clear hs
  generalize hr0 : (([.v (.raw (.bool (inI ws n)))], gs) : List RV × GS) = r0
  unfold b32
  refine aw_seq (aw_region_q r32_0 ?_)
  (repeat (first | simp [-invQ_normal, l32_0, a0, a1, hg, hl, hn, wordC, aBin, aUn, pow2_ne, pow2_ne_i, eqCells, eqCell, int_beq, splice, alloc1_loc, box1_loc, bld, aFill] | simp (disch := omega) only [wrap_i64, wrap_u64, tmod_nn, tdiv_nn, idx_w]))
  refine aw_seq ?_
  refine aw_seq (aw_region_q r32_1 ?_)
  (repeat (first | simp [-invQ_normal, l32_1, a0, a1, hg, hl, hn, wordC, aBin, aUn, pow2_ne, pow2_ne_i, eqCells, eqCell, int_beq, splice, alloc1_loc, box1_loc, bld, aFill] | simp (disch := omega) only [wrap_i64, wrap_u64, tmod_nn, tdiv_nn, idx_w]))
  refine aw_block ?_
  obtain ⟨I2, hI2⟩ : ∃ I : Nat → St → Prop, I = fun k s => ∃ (i : Nat), k = ws.length - i ∧ s.get 0 = .sl (ws.map wordC) ∧ s.get 1 = .raw (.int .i64 n) ∧ s.get 5 = .raw (.int .i64 i) ∧ s.m.gs = gs ∧ (i ≤ ws.length) ∧ (∀ j (h : j < ws.length), j < i → ws[j].1 ≠ (n : Int) / 64) := ⟨_, rfl⟩
  refine aw_inv2 I2 ?_ ?_
  · rw [hI2]
    refine ⟨_, 0, rfl, ?_⟩
    (repeat (first | simp [-invQ_normal, a0, a1, hg, hl, hn, wordC, aBin, aUn, pow2_ne, pow2_ne_i, eqCells, eqCell, int_beq, splice, alloc1_loc, box1_loc, bld, aFill] | simp (disch := omega) only [wrap_i64, wrap_u64, tmod_nn, tdiv_nn, idx_w]))
  · intro k s hI0
    rw [hI2] at hI0
    obtain ⟨i, k3, i4_0, i5_1, i6_5, hg, hi, hj⟩ := hI0
    unfold b32_L0
    refine aw_seq ?_
    refine aw_seq (aw_region_q r32_2 ?_)
    (repeat (first | simp [-invQ_normal, l32_2, hl, hn, i4_0, i5_1, i6_5, hg, wordC, aBin, aUn, pow2_ne, pow2_ne_i, eqCells, eqCell, int_beq, splice, alloc1_loc, box1_loc, bld, aFill] | simp (disch := omega) only [wrap_i64, wrap_u64, tmod_nn, tdiv_nn, idx_w]))
    refine aw_cond_v ?_
    (repeat (first | simp [-invQ_normal, hl, hn, i4_0, i5_1, i6_5, hg, wordC, aBin, aUn, pow2_ne, pow2_ne_i, eqCells, eqCell, int_beq, splice, alloc1_loc, box1_loc, bld, aFill] | simp (disch := omega) only [wrap_i64, wrap_u64, tmod_nn, tdiv_nn, idx_w]))
    refine condV_split ⟨_, rfl⟩ (fun c9 => ?_) (fun c9 => ?_)
    · simp only [AVal.raw.injEq, Value.bool.injEq, decide_eq_false_iff_not, decide_eq_true_eq, Bool.not_eq_true, Bool.not_eq_false, Bool.not_eq_eq_eq_not, Bool.not_true, Bool.not_false, Bool.and_eq_true, Bool.or_eq_true, Bool.or_eq_false_iff] at c9
      refine aw_skip ?_
      try simp only [seqQ_normal, seqQ_exit, seqQ_ret, blockQ_normal, blockQ_ret, blockQ_exit, invQ_exit, invQ_ret, endQ_eq, if_true, reduceIte, Nat.reduceEqDiff, reduceCtorEq]
      refine aw_seq ?_
      refine aw_block ?_
      refine aw_seq (aw_region_q r32_4 ?_)
      (repeat (first | simp [-invQ_normal, l32_4, hl, hn, i4_0, i5_1, i6_5, hg, c9, wordC, aBin, aUn, pow2_ne, pow2_ne_i, eqCells, eqCell, int_beq, splice, alloc1_loc, box1_loc, bld, aFill] | simp (disch := omega) only [wrap_i64, wrap_u64, tmod_nn, tdiv_nn, idx_w]))
      refine aw_cond_v ?_
      (repeat (first | simp [-invQ_normal, hl, hn, i4_0, i5_1, i6_5, hg, c9, wordC, aBin, aUn, pow2_ne, pow2_ne_i, eqCells, eqCell, int_beq, splice, alloc1_loc, box1_loc, bld, aFill] | simp (disch := omega) only [wrap_i64, wrap_u64, tmod_nn, tdiv_nn, idx_w]))
      refine condV_split ⟨_, rfl⟩ (fun c10 => ?_) (fun c10 => ?_)
      · simp only [AVal.raw.injEq, Value.bool.injEq, decide_eq_false_iff_not, decide_eq_true_eq, Bool.not_eq_true, Bool.not_eq_false, Bool.not_eq_eq_eq_not, Bool.not_true, Bool.not_false, Bool.and_eq_true, Bool.or_eq_true, Bool.or_eq_false_iff] at c10
        refine aw_seq (aw_region_d r32_5 ?_)
        (repeat (first | simp [-invQ_normal, l32_5, hl, hn, i4_0, i5_1, i6_5, hg, c9, c10, wordC, aBin, aUn, pow2_ne, pow2_ne_i, eqCells, eqCell, int_beq, splice, alloc1_loc, box1_loc, bld, aFill] | simp (disch := omega) only [wrap_i64, wrap_u64, tmod_nn, tdiv_nn, idx_w]))
        refine wpC_vals (ev_bit n hn _ _) (by simp) (by simp [isRow]) (by simp) (by first | simp | assumption) (by simp [plainArg, plain1, AVal.shared, AVal.shared.sharedOne, rawCell]) ⟨by simp, ?_⟩
        (repeat (first | simp [-invQ_normal, hl, hn, i4_0, i5_1, i6_5, hg, c9, c10, wordC, aBin, aUn, pow2_ne, pow2_ne_i, eqCells, eqCell, int_beq, splice, alloc1_loc, box1_loc, bld, aFill] | simp (disch := omega) only [wrap_i64, wrap_u64, tmod_nn, tdiv_nn, idx_w]))
        refine aw_ret (retQ_vals (gs := gs) [.raw (.bool (inI ws n))] (.inr rfl) ?_ (by simp [givenAs, AVal.fixed, rawCell]) (by (repeat (first | simp [-invQ_normal, hl, hn, i4_0, i5_1, i6_5, hg, c9, c10, wordC, aBin, aUn, pow2_ne, pow2_ne_i, eqCells, eqCell, int_beq, splice, alloc1_loc, box1_loc, bld, aFill] | simp (disch := omega) only [wrap_i64, wrap_u64, tmod_nn, tdiv_nn, idx_w]))) (by rw [← hr0]; first | done | rfl))
        (repeat (first | simp [-invQ_normal, resultOf, hl, hn, i4_0, i5_1, i6_5, hg, c9, c10, wordC, aBin, aUn, pow2_ne, pow2_ne_i, eqCells, eqCell, int_beq, splice, alloc1_loc, box1_loc, bld, aFill] | simp (disch := omega) only [wrap_i64, wrap_u64, tmod_nn, tdiv_nn, idx_w])) <;> (exact in_found hb (by assumption) (by assumption) hj)
      · simp only [AVal.raw.injEq, Value.bool.injEq, decide_eq_false_iff_not, decide_eq_true_eq, Bool.not_eq_true, Bool.not_eq_false, Bool.not_eq_eq_eq_not, Bool.not_true, Bool.not_false, Bool.and_eq_true, Bool.or_eq_true, Bool.or_eq_false_iff] at c10
        refine aw_skip ?_
        try simp only [seqQ_normal, seqQ_exit, seqQ_ret, blockQ_normal, blockQ_ret, blockQ_exit, invQ_exit, invQ_ret, endQ_eq, if_true, reduceIte, Nat.reduceEqDiff, reduceCtorEq]
        refine aw_region_q r32_3 ?_
        (repeat (first | simp [-invQ_normal, l32_3, hl, hn, i4_0, i5_1, i6_5, hg, c9, c10, wordC, aBin, aUn, pow2_ne, pow2_ne_i, eqCells, eqCell, int_beq, splice, alloc1_loc, box1_loc, bld, aFill] | simp (disch := omega) only [wrap_i64, wrap_u64, tmod_nn, tdiv_nn, idx_w]))
        -- cont 0: t9=T t19=F
        simp only [invQ_normal]
        rw [hI2]
        refine ⟨_, ?_, i + 1, rfl, ?_⟩
        · omega
        · (repeat (first | simp [-invQ_normal, hl, hn, i4_0, i5_1, i6_5, hg, c9, c10, wordC, aBin, aUn, pow2_ne, pow2_ne_i, eqCells, eqCell, int_beq, splice, alloc1_loc, box1_loc, bld, aFill] | simp (disch := omega) only [wrap_i64, wrap_u64, tmod_nn, tdiv_nn, idx_w])) <;> (exact ⟨by omega, fun j h hji => (Nat.lt_or_ge j i).elim (hj j h) (fun h2 => by obtain rfl : j = i := (by omega); assumption)⟩)
    · simp only [AVal.raw.injEq, Value.bool.injEq, decide_eq_false_iff_not, decide_eq_true_eq, Bool.not_eq_true, Bool.not_eq_false, Bool.not_eq_eq_eq_not, Bool.not_true, Bool.not_false, Bool.and_eq_true, Bool.or_eq_true, Bool.or_eq_false_iff] at c9
      refine aw_exit ?_
      try simp only [seqQ_normal, seqQ_exit, seqQ_ret, blockQ_normal, blockQ_ret, blockQ_exit, invQ_exit, invQ_ret, endQ_eq, if_true, reduceIte, Nat.reduceEqDiff, reduceCtorEq]
      refine aw_seq (aw_region_q r32_6 ?_)
      (repeat (first | simp [-invQ_normal, l32_6, hl, hn, i4_0, i5_1, i6_5, hg, c9, wordC, aBin, aUn, pow2_ne, pow2_ne_i, eqCells, eqCell, int_beq, splice, alloc1_loc, box1_loc, bld, aFill] | simp (disch := omega) only [wrap_i64, wrap_u64, tmod_nn, tdiv_nn, idx_w]))
      refine aw_ret (retQ_vals (gs := gs) [.raw (.bool (inI ws n))] (.inr rfl) ?_ (by simp [givenAs, AVal.fixed, rawCell]) (by (repeat (first | simp [-invQ_normal, hl, hn, i4_0, i5_1, i6_5, hg, c9, wordC, aBin, aUn, pow2_ne, pow2_ne_i, eqCells, eqCell, int_beq, splice, alloc1_loc, box1_loc, bld, aFill] | simp (disch := omega) only [wrap_i64, wrap_u64, tmod_nn, tdiv_nn, idx_w]))) (by rw [← hr0]; first | done | rfl))
      (repeat (first | simp [-invQ_normal, resultOf, hl, hn, i4_0, i5_1, i6_5, hg, c9, wordC, aBin, aUn, pow2_ne, pow2_ne_i, eqCells, eqCell, int_beq, splice, alloc1_loc, box1_loc, bld, aFill] | simp (disch := omega) only [wrap_i64, wrap_u64, tmod_nn, tdiv_nn, idx_w])) <;> (exact in_none (fun j h => hj j h (by omega)))
set_option maxHeartbeats 800000 in
theorem ev_Numbers (ws : List (Int × Int)) (hl : ws.length ≤ 16384) (hb : bits64 ws) (hr : ∀ p ∈ ws, 0 ≤ p.1 ∧ p.1 < 16384) (base : Nat) (gs : GS)  : Evals E 28 [.sl (ws.map wordC)] base gs ([rowRV 1 (intsL (numsA (natW ws)))], gs) := by
  refine evals_walk 39 #[.tmp 2] rfl (by kernel_rfl) b28_eq (by kernel_rfl) (by kernel_rfl) (by simp) fun s hs hm => ?_
  have a0 : s.get 0 = .sl (ws.map wordC) := by simpa using hs 0
  have hg : s.m.gs = gs := by rw [hm]
  clear hs
  generalize hr0 : (([rowRV 1 (intsL (numsA (natW ws)))], gs) : List RV × GS) = r0
  unfold b28
  refine aw_seq (aw_region_q r28_0 ?_)
  (repeat (first | simp [-invQ_normal, l28_0, a0, hg, hl, wordC, aBin, aUn, pow2_ne, pow2_ne_i, eqCells, eqCell, int_beq, splice, alloc1_loc, box1_loc, bld, aFill] | simp (disch := omega) only [wrap_i64, wrap_u64, tmod_nn, tdiv_nn, idx_w]))
  refine aw_seq (aw_region_q r28_1 ?_)
  (repeat (first | simp [-invQ_normal, l28_1, a0, hg, hl, wordC, aBin, aUn, pow2_ne, pow2_ne_i, eqCells, eqCell, int_beq, splice, alloc1_loc, box1_loc, bld, aFill] | simp (disch := omega) only [wrap_i64, wrap_u64, tmod_nn, tdiv_nn, idx_w]))
  refine aw_seq ?_
  refine aw_seq (aw_region_q r28_2 ?_)
  (repeat (first | simp [-invQ_normal, l28_2, a0, hg, hl, wordC, aBin, aUn, pow2_ne, pow2_ne_i, eqCells, eqCell, int_beq, splice, alloc1_loc, box1_loc, bld, aFill] | simp (disch := omega) only [wrap_i64, wrap_u64, tmod_nn, tdiv_nn, idx_w]))
  refine aw_block ?_
  obtain ⟨I4, hI4⟩ : ∃ I : Nat → St → Prop, I = fun k s => ∃ (i : Nat), k = ws.length - i ∧ s.get 0 = .sl (ws.map wordC) ∧ s.get 4 = .raw (.int .i64 i) ∧ RowIs [140] s.m (s.get 3) 1 (intsL (numsA (natW (ws.take i)))) ∧ s.m.gs = gs ∧ (i ≤ ws.length) := ⟨_, rfl⟩
  refine aw_inv2 I4 ?_ ?_
  · rw [hI4]
    refine ⟨_, 0, rfl, ?_⟩
    (repeat (first | simp [-invQ_normal, a0, hg, hl, wordC, aBin, aUn, pow2_ne, pow2_ne_i, eqCells, eqCell, int_beq, splice, alloc1_loc, box1_loc, bld, aFill] | simp (disch := omega) only [wrap_i64, wrap_u64, tmod_nn, tdiv_nn, idx_w])) <;> (simp [natW, numsA, intsL])
  · intro k s hI0
    rw [hI4] at hI0
    obtain ⟨i, k5, i6_0, i7_4, hr3, hg, hi⟩ := hI0
    unfold b28_L1
    refine aw_seq ?_
    refine aw_seq (aw_region_q r28_3 ?_)
    (repeat (first | simp [-invQ_normal, l28_3, hl, i6_0, i7_4, hg, wordC, aBin, aUn, pow2_ne, pow2_ne_i, eqCells, eqCell, int_beq, splice, alloc1_loc, box1_loc, bld, aFill] | simp (disch := omega) only [wrap_i64, wrap_u64, tmod_nn, tdiv_nn, idx_w]))
    refine aw_cond_v ?_
    (repeat (first | simp [-invQ_normal, hl, i6_0, i7_4, hg, wordC, aBin, aUn, pow2_ne, pow2_ne_i, eqCells, eqCell, int_beq, splice, alloc1_loc, box1_loc, bld, aFill] | simp (disch := omega) only [wrap_i64, wrap_u64, tmod_nn, tdiv_nn, idx_w]))
    refine condV_split ⟨_, rfl⟩ (fun c9 => ?_) (fun c9 => ?_)
    · simp only [AVal.raw.injEq, Value.bool.injEq, decide_eq_false_iff_not, decide_eq_true_eq, Bool.not_eq_true, Bool.not_eq_false, Bool.not_eq_eq_eq_not, Bool.not_true, Bool.not_false, Bool.and_eq_true, Bool.or_eq_true, Bool.or_eq_false_iff] at c9
      refine aw_skip ?_
      try simp only [seqQ_normal, seqQ_exit, seqQ_ret, blockQ_normal, blockQ_ret, blockQ_exit, invQ_exit, invQ_ret, endQ_eq, if_true, reduceIte, Nat.reduceEqDiff, reduceCtorEq]
      refine aw_seq ?_
      refine aw_block ?_
      refine aw_seq (aw_region_q r28_5 ?_)
      (repeat (first | simp [-invQ_normal, l28_5, hl, i6_0, i7_4, hg, c9, wordC, aBin, aUn, pow2_ne, pow2_ne_i, eqCells, eqCell, int_beq, splice, alloc1_loc, box1_loc, bld, aFill] | simp (disch := omega) only [wrap_i64, wrap_u64, tmod_nn, tdiv_nn, idx_w]))
      refine aw_seq (aw_region_q r28_6 ?_)
      (repeat (first | simp [-invQ_normal, l28_6, hl, i6_0, i7_4, hg, c9, wordC, aBin, aUn, pow2_ne, pow2_ne_i, eqCells, eqCell, int_beq, splice, alloc1_loc, box1_loc, bld, aFill] | simp (disch := omega) only [wrap_i64, wrap_u64, tmod_nn, tdiv_nn, idx_w]))
      refine aw_block ?_
      obtain ⟨I11, hI11⟩ : ∃ I : Nat → St → Prop, I = fun k s => ∃ (n : Nat) (rest : Nat) (acc : List Int), k = 64 - n ∧ s.get 0 = .sl (ws.map wordC) ∧ s.get 4 = .raw (.int .i64 i) ∧ s.get 6 = .raw (.int .i64 n) ∧ s.get 5 = .raw (.int .u64 rest) ∧ RowIs [140] s.m (s.get 3) 1 (intsL acc) ∧ s.m.gs = gs ∧ (n ≤ 64) ∧ (acc ++ numsF ws[i].1 (64 - n) n rest = numsA (natW (ws.take (i + 1)))) ∧ (rest < 18446744073709551616) ∧ (acc.length ≤ 64 * i + n) := ⟨_, rfl⟩
      refine aw_inv2 I11 ?_ ?_
      · rw [hI11]
        refine ⟨_, 0, ws[i].2.toNat, numsA (natW (ws.take i)), rfl, ?_⟩
        (repeat (first | simp [-invQ_normal, hl, i6_0, i7_4, hg, c9, wordC, aBin, aUn, pow2_ne, pow2_ne_i, eqCells, eqCell, int_beq, splice, alloc1_loc, box1_loc, bld, aFill] | simp (disch := omega) only [wrap_i64, wrap_u64, tmod_nn, tdiv_nn, idx_w])) <;> (have hbi := bits_get hb (by assumption); have hri := hr _ (List.getElem_mem (by assumption)); exact ⟨by omega, hr3, nums_end _ hri.1, hbi.2, nums_take_len _ _⟩)
      · intro k s hI0
        rw [hI11] at hI0
        obtain ⟨n, rest, acc, k12, i13_0, i14_4, i15_6, i16_5, hr3, hg, hn, hacc, hrest, hal⟩ := hI0
        unfold b28_L0
        refine aw_seq ?_
        refine aw_seq (aw_region_q r28_7 ?_)
        (repeat (first | simp [-invQ_normal, l28_7, hl, i13_0, i14_4, i15_6, i16_5, hg, wordC, aBin, aUn, pow2_ne, pow2_ne_i, eqCells, eqCell, int_beq, splice, alloc1_loc, box1_loc, bld, aFill] | simp (disch := omega) only [wrap_i64, wrap_u64, tmod_nn, tdiv_nn, idx_w]))
        refine aw_cond_v ?_
        (repeat (first | simp [-invQ_normal, hl, i13_0, i14_4, i15_6, i16_5, hg, wordC, aBin, aUn, pow2_ne, pow2_ne_i, eqCells, eqCell, int_beq, splice, alloc1_loc, box1_loc, bld, aFill] | simp (disch := omega) only [wrap_i64, wrap_u64, tmod_nn, tdiv_nn, idx_w]))
        refine condV_split ⟨_, rfl⟩ (fun c21 => ?_) (fun c21 => ?_)
        · simp only [AVal.raw.injEq, Value.bool.injEq, decide_eq_false_iff_not, decide_eq_true_eq, Bool.not_eq_true, Bool.not_eq_false, Bool.not_eq_eq_eq_not, Bool.not_true, Bool.not_false, Bool.and_eq_true, Bool.or_eq_true, Bool.or_eq_false_iff] at c21
          refine aw_skip ?_
          try simp only [seqQ_normal, seqQ_exit, seqQ_ret, blockQ_normal, blockQ_ret, blockQ_exit, invQ_exit, invQ_ret, endQ_eq, if_true, reduceIte, Nat.reduceEqDiff, reduceCtorEq]
          refine aw_seq ?_
          refine aw_block ?_
          refine aw_seq ?_
          refine aw_seq (aw_region_q r28_9 ?_)
          (repeat (first | simp [-invQ_normal, l28_9, hl, i13_0, i14_4, i15_6, i16_5, hg, c21, wordC, aBin, aUn, pow2_ne, pow2_ne_i, eqCells, eqCell, int_beq, splice, alloc1_loc, box1_loc, bld, aFill] | simp (disch := omega) only [wrap_i64, wrap_u64, tmod_nn, tdiv_nn, idx_w]))
          refine aw_cond_v ?_
          (repeat (first | simp [-invQ_normal, hl, i13_0, i14_4, i15_6, i16_5, hg, c21, wordC, aBin, aUn, pow2_ne, pow2_ne_i, eqCells, eqCell, int_beq, splice, alloc1_loc, box1_loc, bld, aFill] | simp (disch := omega) only [wrap_i64, wrap_u64, tmod_nn, tdiv_nn, idx_w]))
          refine condV_split ⟨_, rfl⟩ (fun c22 => ?_) (fun c22 => ?_)
          · simp only [AVal.raw.injEq, Value.bool.injEq, decide_eq_false_iff_not, decide_eq_true_eq, Bool.not_eq_true, Bool.not_eq_false, Bool.not_eq_eq_eq_not, Bool.not_true, Bool.not_false, Bool.and_eq_true, Bool.or_eq_true, Bool.or_eq_false_iff] at c22
            refine aw_region_q r28_10 ?_
            (repeat (first | simp [-invQ_normal, l28_10, hl, i13_0, i14_4, i15_6, i16_5, hg, c21, c22, wordC, aBin, aUn, pow2_ne, pow2_ne_i, eqCells, eqCell, int_beq, splice, alloc1_loc, box1_loc, bld, aFill] | simp (disch := omega) only [wrap_i64, wrap_u64, tmod_nn, tdiv_nn, idx_w]))
            refine wpV_append hr3 (by simp) (by simp) (by simp [AVal.fixed, rawCell]) (e_E_size_3 _) (e_E_bytes_3 _) (e_E_zero_3 _) rfl (by decide) (by decide) (by simp [maxBytes]; omega) (fun xa23 ma23 ra23 ga23 fa23 => ⟨by simp, ?_⟩)
            (repeat (first | simp [-invQ_normal, hl, i13_0, i14_4, i15_6, i16_5, hg, c21, c22, ga23, wordC, aBin, aUn, pow2_ne, pow2_ne_i, eqCells, eqCell, int_beq, splice, alloc1_loc, box1_loc, bld, aFill] | simp (disch := omega) only [wrap_i64, wrap_u64, tmod_nn, tdiv_nn, idx_w]))
            refine aw_region_q r28_11 ?_
            (repeat (first | simp [-invQ_normal, l28_11, hl, i13_0, i14_4, i15_6, i16_5, hg, c21, c22, ga23, wordC, aBin, aUn, pow2_ne, pow2_ne_i, eqCells, eqCell, int_beq, splice, alloc1_loc, box1_loc, bld, aFill] | simp (disch := omega) only [wrap_i64, wrap_u64, tmod_nn, tdiv_nn, idx_w]))
            refine aw_region_q r28_8 ?_
            (repeat (first | simp [-invQ_normal, l28_8, hl, i13_0, i14_4, i15_6, i16_5, hg, c21, c22, ga23, wordC, aBin, aUn, pow2_ne, pow2_ne_i, eqCells, eqCell, int_beq, splice, alloc1_loc, box1_loc, bld, aFill] | simp (disch := omega) only [wrap_i64, wrap_u64, tmod_nn, tdiv_nn, idx_w]))
            -- cont 0: t19=T t24=T
            simp only [invQ_normal]
            rw [hI11]
            refine ⟨_, ?_, n + 1, rest / 2, acc ++ [64 * ws[i].1 + n], rfl, ?_⟩
            · omega
            · (repeat (first | simp [-invQ_normal, hl, i13_0, i14_4, i15_6, i16_5, hg, c21, c22, ga23, wordC, aBin, aUn, pow2_ne, pow2_ne_i, eqCells, eqCell, int_beq, splice, alloc1_loc, box1_loc, bld, aFill] | simp (disch := omega) only [wrap_i64, wrap_u64, tmod_nn, tdiv_nn, idx_w])) <;> (have hri := hr _ (List.getElem_mem (show i < ws.length by assumption)); simp (disch := omega) only [wrap_i64] at ra23; rw [show 64 - n = (63 - n) + 1 by omega, numsF_step, if_pos (by omega)] at hacc; refine ⟨by rw [intsL_append]; exact ra23, by omega, ?_, by omega, by omega⟩; rw [← hacc])
          · simp only [AVal.raw.injEq, Value.bool.injEq, decide_eq_false_iff_not, decide_eq_true_eq, Bool.not_eq_true, Bool.not_eq_false, Bool.not_eq_eq_eq_not, Bool.not_true, Bool.not_false, Bool.and_eq_true, Bool.or_eq_true, Bool.or_eq_false_iff] at c22
            refine aw_skip ?_
            try simp only [seqQ_normal, seqQ_exit, seqQ_ret, blockQ_normal, blockQ_ret, blockQ_exit, invQ_exit, invQ_ret, endQ_eq, if_true, reduceIte, Nat.reduceEqDiff, reduceCtorEq]
            refine aw_region_q r28_11 ?_
            (repeat (first | simp [-invQ_normal, l28_11, hl, i13_0, i14_4, i15_6, i16_5, hg, c21, c22, wordC, aBin, aUn, pow2_ne, pow2_ne_i, eqCells, eqCell, int_beq, splice, alloc1_loc, box1_loc, bld, aFill] | simp (disch := omega) only [wrap_i64, wrap_u64, tmod_nn, tdiv_nn, idx_w]))
            refine aw_region_q r28_8 ?_
            (repeat (first | simp [-invQ_normal, l28_8, hl, i13_0, i14_4, i15_6, i16_5, hg, c21, c22, wordC, aBin, aUn, pow2_ne, pow2_ne_i, eqCells, eqCell, int_beq, splice, alloc1_loc, box1_loc, bld, aFill] | simp (disch := omega) only [wrap_i64, wrap_u64, tmod_nn, tdiv_nn, idx_w]))
            -- cont 1: t19=T t24=F
            simp only [invQ_normal]
            rw [hI11]
            refine ⟨_, ?_, n + 1, rest / 2, acc, rfl, ?_⟩
            · omega
            · (repeat (first | simp [-invQ_normal, hl, i13_0, i14_4, i15_6, i16_5, hg, c21, c22, wordC, aBin, aUn, pow2_ne, pow2_ne_i, eqCells, eqCell, int_beq, splice, alloc1_loc, box1_loc, bld, aFill] | simp (disch := omega) only [wrap_i64, wrap_u64, tmod_nn, tdiv_nn, idx_w])) <;> (rw [show 64 - n = (63 - n) + 1 by omega, numsF_step, if_neg (by omega)] at hacc; refine ⟨hr3, by omega, ?_, by omega, by omega⟩; rw [← hacc])
        · simp only [AVal.raw.injEq, Value.bool.injEq, decide_eq_false_iff_not, decide_eq_true_eq, Bool.not_eq_true, Bool.not_eq_false, Bool.not_eq_eq_eq_not, Bool.not_true, Bool.not_false, Bool.and_eq_true, Bool.or_eq_true, Bool.or_eq_false_iff] at c21
          refine aw_exit ?_
          try simp only [seqQ_normal, seqQ_exit, seqQ_ret, blockQ_normal, blockQ_ret, blockQ_exit, invQ_exit, invQ_ret, endQ_eq, if_true, reduceIte, Nat.reduceEqDiff, reduceCtorEq]
          refine aw_region_q r28_4 ?_
          (repeat (first | simp [-invQ_normal, l28_4, hl, i13_0, i14_4, i15_6, i16_5, hg, c21, wordC, aBin, aUn, pow2_ne, pow2_ne_i, eqCells, eqCell, int_beq, splice, alloc1_loc, box1_loc, bld, aFill] | simp (disch := omega) only [wrap_i64, wrap_u64, tmod_nn, tdiv_nn, idx_w]))
          -- cont 0: t19=F
          simp only [invQ_normal]
          rw [hI4]
          refine ⟨_, ?_, i + 1, rfl, ?_⟩
          · omega
          · (repeat (first | simp [-invQ_normal, hl, i13_0, i14_4, i15_6, i16_5, hg, c21, wordC, aBin, aUn, pow2_ne, pow2_ne_i, eqCells, eqCell, int_beq, splice, alloc1_loc, box1_loc, bld, aFill] | simp (disch := omega) only [wrap_i64, wrap_u64, tmod_nn, tdiv_nn, idx_w])) <;> (have e : acc = numsA (natW (ws.take (i + 1))) := (by rw [← hacc, show 64 - n = 0 by omega, numsF_zero, List.append_nil]); subst e; exact ⟨hr3, by omega⟩)
    · simp only [AVal.raw.injEq, Value.bool.injEq, decide_eq_false_iff_not, decide_eq_true_eq, Bool.not_eq_true, Bool.not_eq_false, Bool.not_eq_eq_eq_not, Bool.not_true, Bool.not_false, Bool.and_eq_true, Bool.or_eq_true, Bool.or_eq_false_iff] at c9
      refine aw_exit ?_
      try simp only [seqQ_normal, seqQ_exit, seqQ_ret, blockQ_normal, blockQ_ret, blockQ_exit, invQ_exit, invQ_ret, endQ_eq, if_true, reduceIte, Nat.reduceEqDiff, reduceCtorEq]
      refine aw_seq (aw_region_q r28_12 ?_)
      (repeat (first | simp [-invQ_normal, l28_12, hl, i6_0, i7_4, hg, c9, wordC, aBin, aUn, pow2_ne, pow2_ne_i, eqCells, eqCell, int_beq, splice, alloc1_loc, box1_loc, bld, aFill] | simp (disch := omega) only [wrap_i64, wrap_u64, tmod_nn, tdiv_nn, idx_w]))
      refine aw_ret (retQ_row (gs := gs) (sz := 1) (a := s.get 3) [] (.inr rfl) (by (repeat (first | simp [-invQ_normal, resultOf, hl, i6_0, i7_4, hg, c9, wordC, aBin, aUn, pow2_ne, pow2_ne_i, eqCells, eqCell, int_beq, splice, alloc1_loc, box1_loc, bld, aFill] | simp (disch := omega) only [wrap_i64, wrap_u64, tmod_nn, tdiv_nn, idx_w]))) hr3 (by simp) (by simp [givenAs, AVal.fixed, rawCell]) (by (repeat (first | simp [-invQ_normal, hl, i6_0, i7_4, hg, c9, wordC, aBin, aUn, pow2_ne, pow2_ne_i, eqCells, eqCell, int_beq, splice, alloc1_loc, box1_loc, bld, aFill] | simp (disch := omega) only [wrap_i64, wrap_u64, tmod_nn, tdiv_nn, idx_w]))) (by simp) (hr0.symm.trans ?_))
      rw [List.take_of_length_le (by omega)]; rfl

end Go.Proofs.YtjcgaelibiiiiaaDoor
