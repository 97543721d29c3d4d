/-
  WALK over the abstract interpreter: slices.Clone of some numbers. Printed by this seat's own program (genwalk.py) out of door0.py.
-/
import Derived.Test.YtjcgaelibiiiiaaDoorFacts2
set_option linter.unusedVariables false
set_option linter.unusedSimpArgs false
namespace Go.Proofs.YtjcgaelibiiiiaaDoor
open Go.Abs

variable {x : ExtF}
theorem ints64_map : ∀ (es : List (List AVal)) (zs : List Int), ints64 es = some zs → es = cellsOfI zs
  | [], zs, h => by simp [ints64] at h; subst h; rfl
  | e :: es, zs, h => by
    unfold ints64 at h
    split at h
    · rename_i h1; exact absurd h1 (by simp)
    · rename_i h1
      cases h1
      obtain ⟨l, hl, rfl⟩ := Option.map_eq_some_iff.1 h
      rw [ints64_map _ _ hl]; rfl
    · cases h
@[simp] theorem cellsOfI_len (l : List Int) : (cellsOfI l).length = l.length := by simp [cellsOfI]
theorem elems_sl (m : Mem) (es : List (List AVal)) : m.elems (.sl es) = some es := rfl

set_option maxHeartbeats 400000 in
theorem ev_clone (hx : x 39 = none) (z : Int) (zs : List Int) (hl : zs.length < 1000000) (base : Nat) (gs : GS)  : Evals (EX x) 39 [.sl (cellsOfI (z :: zs))] base gs ([rowRV 1 (cellsOfI (z :: zs))], gs) := by
  refine evals_walk 8 #[.tmp 2] hx (by kernel_rfl) b39_eq (by kernel_rfl) (by kernel_rfl) (by simp) fun s hs hm => ?_
  have a0 : s.get 0 = .sl (cellsOfI (z :: zs)) := by simpa using hs 0
  have hg : s.m.gs = gs := by rw [hm]
  clear hs
  generalize hr0 : (([rowRV 1 (cellsOfI (z :: zs))], gs) : List RV × GS) = r0
  unfold b39
  refine aw_seq (aw_region_q r39_0 ?_)
  (repeat (first | simp [-invQ_normal, l39_0, a0, hg, bin, nilCmpO, nilCmp, boolIs, aBin, aUn, eqCells, eqCell, int_beq, splice, alloc1_loc, box1_loc, bld, aFill] | simp (disch := omega) only [wrap_i64]))
  refine aw_seq ?_
  refine aw_seq (aw_region_q r39_1 ?_)
  have ec : cellsOfI (z :: zs) = [.raw (.int .i64 z)] :: cellsOfI zs := rfl
  (repeat (first | simp [-invQ_normal, l39_1, a0, hg, ec, bin, nilCmpO, nilCmp, boolIs, aBin, aUn, eqCells, eqCell, int_beq, splice, alloc1_loc, box1_loc, bld, aFill] | simp (disch := omega) only [wrap_i64]))
  refine aw_cond_0 (by (repeat (first | simp [-invQ_normal, a0, hg, ec, bin, nilCmpO, nilCmp, boolIs, aBin, aUn, eqCells, eqCell, int_beq, splice, alloc1_loc, box1_loc, bld, aFill] | simp (disch := omega) only [wrap_i64]))) ?_
  refine aw_skip ?_
  try simp only [seqQ_normal, seqQ_exit, seqQ_ret, blockQ_normal, blockQ_ret, blockQ_exit, invQ_exit, invQ_ret, endQ_eq, if_true, reduceIte, Nat.reduceEqDiff, reduceCtorEq]
  refine aw_seq (aw_region_q r39_3 ?_)
  have hrow : RowIs [28] s.m .e0 1 [] := RowIs.start _ _ _
  have hall : ∀ y ∈ cellsOfI (z :: zs), y.length = 1 ∧ y.all AVal.fixed = true := (fun y hy => by obtain ⟨q, _, rfl⟩ := List.mem_map.1 hy; simp)
  (repeat (first | simp [-invQ_normal, l39_3, a0, hg, ec, bin, nilCmpO, nilCmp, boolIs, aBin, aUn, eqCells, eqCell, int_beq, splice, alloc1_loc, box1_loc, bld, aFill] | simp (disch := omega) only [wrap_i64]))
  refine wpV_append (ys := cellsOfI (z :: zs)) hrow (by simp) (by simp [cellsOfI]) hall (e_E_size_3 _) (e_E_bytes_3 _) (e_E_zero_3 _) rfl (by decide) (by decide) (by simp [maxBytes]; omega) (fun xa ma ra ga fa => ⟨by simp, ?_⟩)
  (repeat (first | simp [-invQ_normal, a0, hg, ec, ga, bin, nilCmpO, nilCmp, boolIs, aBin, aUn, eqCells, eqCell, int_beq, splice, alloc1_loc, box1_loc, bld, aFill] | simp (disch := omega) only [wrap_i64]))
  refine aw_ret (retQ_row (gs := gs) (sz := 1) (a := xa) [] (.inr rfl) (by (repeat (first | simp [-invQ_normal, resultOf, a0, hg, ec, ga, bin, nilCmpO, nilCmp, boolIs, aBin, aUn, eqCells, eqCell, int_beq, splice, alloc1_loc, box1_loc, bld, aFill] | simp (disch := omega) only [wrap_i64]))) ra (by simp) (by simp [givenAs, AVal.fixed, rawCell]) (by (repeat (first | simp [-invQ_normal, a0, hg, ec, ga, bin, nilCmpO, nilCmp, boolIs, aBin, aUn, eqCells, eqCell, int_beq, splice, alloc1_loc, box1_loc, bld, aFill] | simp (disch := omega) only [wrap_i64]))) (by simp) (hr0.symm.trans ?_))
  rfl

end Go.Proofs.YtjcgaelibiiiiaaDoor
