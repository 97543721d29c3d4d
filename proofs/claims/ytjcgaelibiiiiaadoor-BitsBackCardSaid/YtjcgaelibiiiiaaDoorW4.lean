/-
  WALKS over the abstract interpreter: bits.Or, And, Minus. Printed by this seat's own program (genwalk.py) out of door4.py.
-/
import Derived.Test.YtjcgaelibiiiiaaDoorW3
set_option linter.unusedVariables false
set_option linter.unusedSimpArgs false
namespace Go.Proofs.YtjcgaelibiiiiaaDoor
open Go.Abs

/-- What is put for a key. -/
def putW (t w : Int) : List (Int × Int) := if w = 0 then [] else [(t, w)]
def putL (t w : Int) : List (List AVal) := (putW t w).map wordC
/-- Two lists of words together, by a function of the words of a key. -/
def mergeW (f : Int → Int → Int) : List (Int × Int) → List (Int × Int) → List (Int × Int)
  | [], [] => []
  | p :: a, [] => putW p.1 (f p.2 0) ++ mergeW f a []
  | [], q :: b => putW q.1 (f 0 q.2) ++ mergeW f [] b
  | p :: a, q :: b => if p.1 < q.1 then putW p.1 (f p.2 0) ++ mergeW f a (q :: b) else if q.1 < p.1 then putW q.1 (f 0 q.2) ++ mergeW f (p :: a) b else putW p.1 (f p.2 q.2) ++ mergeW f a b
termination_by x y => x.length + y.length
theorem idx_w22 {l : List (Int × Int)} {k : IntKind} {z : Int} {m : Mem} (h0 : 0 ≤ z) (h : z < l.length) : idx E m 22 (.sl (l.map wordC)) (.raw (.int k z)) = some (.ip (wordC (l[z.toNat]'(by omega))), none) :=
  idx_map (e_E_under_22 _) (e_E_size_52 _) h0 h wordC_len (by decide)
theorem slc1_w {l : List (Int × Int)} {s : St} (h : 1 ≤ l.length) : slc E s 22 (some (.const (.int .i64 1))) none none (.sl (l.map wordC)) = some (.sl (l.tail.map wordC), none) := by
  rw [slc_map (e_E_under_22 _) (e_E_size_52 _) wordC_len (h := l.length) (k := 1) rfl (by simp [aLo, aBound]; omega)]
  simp
theorem putW_len (t w : Int) : (putW t w).length ≤ 1 := by unfold putW; split <;> simp
theorem bits_tail {x : List (Int × Int)} (h : bits64 x) : bits64 x.tail := fun p hp => h p (List.mem_of_mem_tail hp)
theorem mergeW_x {f : Int → Int → Int} {x y : List (Int × Int)} (hx : 0 < x.length) (h : y = [] ∨ ∃ hy : 0 < y.length, x[0].1 < y[0].1) : mergeW f x y = putW x[0].1 (f x[0].2 0) ++ mergeW f x.tail y := by
  match x, y, hx, h with
  | p :: x, [], _, _ => simp [mergeW]
  | p :: x, q :: y, _, h =>
    have : p.1 < q.1 := by rcases h with h | ⟨_, h⟩ <;> simp_all
    rw [mergeW, if_pos this]
    rfl
theorem mergeW_y {f : Int → Int → Int} {x y : List (Int × Int)} (hy : 0 < y.length) (h : x = [] ∨ ∃ hx : 0 < x.length, y[0].1 < x[0].1) : mergeW f x y = putW y[0].1 (f 0 y[0].2) ++ mergeW f x y.tail := by
  match x, y, hy, h with
  | [], q :: y, _, _ => simp [mergeW]
  | p :: x, q :: y, _, h =>
    have : q.1 < p.1 := by rcases h with h | ⟨_, h⟩ <;> simp_all
    rw [mergeW, if_neg (by omega), if_pos this]
    rfl
theorem mergeW_b {f : Int → Int → Int} {x y : List (Int × Int)} (hx : 0 < x.length) (hy : 0 < y.length) (h : x[0].1 = y[0].1) : mergeW f x y = putW x[0].1 (f x[0].2 y[0].2) ++ mergeW f x.tail y.tail := by
  match x, y, hx, hy, h with
  | p :: x, q :: y, _, _, h =>
    simp only [List.getElem_cons_zero] at h
    rw [mergeW, if_neg (by omega), if_neg (by omega)]
    rfl
theorem both_bad {x y : Bool} (h : ¬ max (if x = true then (0 : Int) else 8) (if y = true then 0 else 8) = 0) : (x && y) = false ∧ max (if x = true then (0 : Int) else 8) (if y = true then 0 else 8) = 8 := by
  revert h; cases x <;> cases y <;> decide
theorem both_good {x y : Bool} (h : max (if x = true then (0 : Int) else 8) (if y = true then 0 else 8) = 0) : (x && y) = true := by
  revert h; cases x <;> cases y <;> decide
def orF (x y : Int) : Int := ((x.toNat ||| y.toNat : Nat) : Int)
def andF (x y : Int) : Int := ((x.toNat &&& y.toNat : Nat) : Int)
def notF (x y : Int) : Int := ((x.toNat ^^^ (x.toNat &&& y.toNat) : Nat) : Int)
/-- A closure of two words. -/
def Joins (d : Nat) (f : Int → Int → Int) : Prop := ∀ x y : Int, 0 ≤ x → x < 18446744073709551616 → 0 ≤ y → y < 18446744073709551616 → (0 ≤ f x y ∧ f x y < 18446744073709551616) ∧ ∀ base gs, Evals E d [.raw (.int .u64 x), .raw (.int .u64 y)] base gs ([.v (.raw (.int .u64 (f x y)))], gs)

set_option maxHeartbeats 800000 in
theorem ev_or (x y : Nat) (hx : x < 18446744073709551616) (hy : y < 18446744073709551616) (base : Nat) (gs : GS)  : Evals E 36 [.raw (.int .u64 x), .raw (.int .u64 y)] base gs ([.v (.raw (.int .u64 (x ||| y : Nat)))], gs) := by
  refine evals_walk 8 #[.tmp 4] rfl (by kernel_rfl) b36_eq (by kernel_rfl) (by kernel_rfl) (by simp) fun s hs hm => ?_
  have a0 : s.get 0 = .raw (.int .u64 x) := by simpa using hs 0
  have a1 : s.get 1 = .raw (.int .u64 y) := by simpa using hs 1
  have hg : s.m.gs = gs := by rw [hm]
  clear hs
  generalize hr0 : (([.v (.raw (.int .u64 (x ||| y : Nat)))], gs) : List RV × GS) = r0
  unfold b36
  refine aw_seq (aw_region_q r36_0 ?_)
  (repeat (first | simp [-invQ_normal, l36_0, a0, a1, hg, wordC, aBin, aUn, pow2_ne, pow2_ne_i, eqCells, eqCell, int_beq, splice, alloc1_loc, box1_loc, bld, aFill] | simp (disch := omega) only [wrap_i64, wrap_u64, tmod_nn, tdiv_nn, idx_w, idx_i, app_w, and_u64n, or_u64n, andNot_u64n]))
  refine aw_seq (aw_region_q r36_1 ?_)
  (repeat (first | simp [-invQ_normal, l36_1, a0, a1, hg, wordC, aBin, aUn, pow2_ne, pow2_ne_i, eqCells, eqCell, int_beq, splice, alloc1_loc, box1_loc, bld, aFill] | simp (disch := omega) only [wrap_i64, wrap_u64, tmod_nn, tdiv_nn, idx_w, idx_i, app_w, and_u64n, or_u64n, andNot_u64n]))
  refine aw_ret (retQ_vals (gs := gs) [.raw (.int .u64 (x ||| y : Nat))] (.inr rfl) ?_ (by simp [givenAs, AVal.fixed, rawCell]) (by (repeat (first | simp [-invQ_normal, a0, a1, hg, wordC, aBin, aUn, pow2_ne, pow2_ne_i, eqCells, eqCell, int_beq, splice, alloc1_loc, box1_loc, bld, aFill] | simp (disch := omega) only [wrap_i64, wrap_u64, tmod_nn, tdiv_nn, idx_w, idx_i, app_w, and_u64n, or_u64n, andNot_u64n]))) (by rw [← hr0]; first | done | rfl))
  (repeat (first | simp [-invQ_normal, resultOf, a0, a1, hg, wordC, aBin, aUn, pow2_ne, pow2_ne_i, eqCells, eqCell, int_beq, splice, alloc1_loc, box1_loc, bld, aFill] | simp (disch := omega) only [wrap_i64, wrap_u64, tmod_nn, tdiv_nn, idx_w, idx_i, app_w, and_u64n, or_u64n, andNot_u64n]))
set_option maxHeartbeats 800000 in
theorem ev_and (x y : Nat) (hx : x < 18446744073709551616) (hy : y < 18446744073709551616) (base : Nat) (gs : GS)  : Evals E 37 [.raw (.int .u64 x), .raw (.int .u64 y)] base gs ([.v (.raw (.int .u64 (x &&& y : Nat)))], gs) := by
  refine evals_walk 8 #[.tmp 4] rfl (by kernel_rfl) b37_eq (by kernel_rfl) (by kernel_rfl) (by simp) fun s hs hm => ?_
  have a0 : s.get 0 = .raw (.int .u64 x) := by simpa using hs 0
  have a1 : s.get 1 = .raw (.int .u64 y) := by simpa using hs 1
  have hg : s.m.gs = gs := by rw [hm]
  clear hs
  generalize hr0 : (([.v (.raw (.int .u64 (x &&& y : Nat)))], gs) : List RV × GS) = r0
  unfold b37
  refine aw_seq (aw_region_q r37_0 ?_)
  (repeat (first | simp [-invQ_normal, l37_0, a0, a1, hg, wordC, aBin, aUn, pow2_ne, pow2_ne_i, eqCells, eqCell, int_beq, splice, alloc1_loc, box1_loc, bld, aFill] | simp (disch := omega) only [wrap_i64, wrap_u64, tmod_nn, tdiv_nn, idx_w, idx_i, app_w, and_u64n, or_u64n, andNot_u64n]))
  refine aw_seq (aw_region_q r37_1 ?_)
  (repeat (first | simp [-invQ_normal, l37_1, a0, a1, hg, wordC, aBin, aUn, pow2_ne, pow2_ne_i, eqCells, eqCell, int_beq, splice, alloc1_loc, box1_loc, bld, aFill] | simp (disch := omega) only [wrap_i64, wrap_u64, tmod_nn, tdiv_nn, idx_w, idx_i, app_w, and_u64n, or_u64n, andNot_u64n]))
  refine aw_ret (retQ_vals (gs := gs) [.raw (.int .u64 (x &&& y : Nat))] (.inr rfl) ?_ (by simp [givenAs, AVal.fixed, rawCell]) (by (repeat (first | simp [-invQ_normal, a0, a1, hg, wordC, aBin, aUn, pow2_ne, pow2_ne_i, eqCells, eqCell, int_beq, splice, alloc1_loc, box1_loc, bld, aFill] | simp (disch := omega) only [wrap_i64, wrap_u64, tmod_nn, tdiv_nn, idx_w, idx_i, app_w, and_u64n, or_u64n, andNot_u64n]))) (by rw [← hr0]; first | done | rfl))
  (repeat (first | simp [-invQ_normal, resultOf, a0, a1, hg, wordC, aBin, aUn, pow2_ne, pow2_ne_i, eqCells, eqCell, int_beq, splice, alloc1_loc, box1_loc, bld, aFill] | simp (disch := omega) only [wrap_i64, wrap_u64, tmod_nn, tdiv_nn, idx_w, idx_i, app_w, and_u64n, or_u64n, andNot_u64n]))
set_option maxHeartbeats 800000 in
theorem ev_minus (x y : Nat) (hx : x < 18446744073709551616) (hy : y < 18446744073709551616) (base : Nat) (gs : GS)  : Evals E 38 [.raw (.int .u64 x), .raw (.int .u64 y)] base gs ([.v (.raw (.int .u64 (x ^^^ (x &&& y) : Nat)))], gs) := by
  refine evals_walk 8 #[.tmp 4] rfl (by kernel_rfl) b38_eq (by kernel_rfl) (by kernel_rfl) (by simp) fun s hs hm => ?_
  have a0 : s.get 0 = .raw (.int .u64 x) := by simpa using hs 0
  have a1 : s.get 1 = .raw (.int .u64 y) := by simpa using hs 1
  have hg : s.m.gs = gs := by rw [hm]
  clear hs
  generalize hr0 : (([.v (.raw (.int .u64 (x ^^^ (x &&& y) : Nat)))], gs) : List RV × GS) = r0
  unfold b38
  refine aw_seq (aw_region_q r38_0 ?_)
  (repeat (first | simp [-invQ_normal, l38_0, a0, a1, hg, wordC, aBin, aUn, pow2_ne, pow2_ne_i, eqCells, eqCell, int_beq, splice, alloc1_loc, box1_loc, bld, aFill] | simp (disch := omega) only [wrap_i64, wrap_u64, tmod_nn, tdiv_nn, idx_w, idx_i, app_w, and_u64n, or_u64n, andNot_u64n]))
  refine aw_seq (aw_region_q r38_1 ?_)
  (repeat (first | simp [-invQ_normal, l38_1, a0, a1, hg, wordC, aBin, aUn, pow2_ne, pow2_ne_i, eqCells, eqCell, int_beq, splice, alloc1_loc, box1_loc, bld, aFill] | simp (disch := omega) only [wrap_i64, wrap_u64, tmod_nn, tdiv_nn, idx_w, idx_i, app_w, and_u64n, or_u64n, andNot_u64n]))
  refine aw_ret (retQ_vals (gs := gs) [.raw (.int .u64 (x ^^^ (x &&& y) : Nat))] (.inr rfl) ?_ (by simp [givenAs, AVal.fixed, rawCell]) (by (repeat (first | simp [-invQ_normal, a0, a1, hg, wordC, aBin, aUn, pow2_ne, pow2_ne_i, eqCells, eqCell, int_beq, splice, alloc1_loc, box1_loc, bld, aFill] | simp (disch := omega) only [wrap_i64, wrap_u64, tmod_nn, tdiv_nn, idx_w, idx_i, app_w, and_u64n, or_u64n, andNot_u64n]))) (by rw [← hr0]; first | done | rfl))
  (repeat (first | simp [-invQ_normal, resultOf, a0, a1, hg, wordC, aBin, aUn, pow2_ne, pow2_ne_i, eqCells, eqCell, int_beq, splice, alloc1_loc, box1_loc, bld, aFill] | simp (disch := omega) only [wrap_i64, wrap_u64, tmod_nn, tdiv_nn, idx_w, idx_i, app_w, and_u64n, or_u64n, andNot_u64n]))
set_option maxHeartbeats 800000 in
theorem ev_key (p : Int × Int) (base : Nat) (gs : GS)  : Evals E 45 [.agg (wordC p)] base gs ([.v (.raw (.int .i64 p.1))], gs) := by
  refine evals_walk 5 #[.tmp 2] rfl (by kernel_rfl) b45_eq (by kernel_rfl) (by kernel_rfl) (by simp) fun s hs hm => ?_
  have a0 : s.get 0 = .agg (wordC p) := by simpa using hs 0
  have hg : s.m.gs = gs := by rw [hm]
  clear hs
  generalize hr0 : (([.v (.raw (.int .i64 p.1))], gs) : List RV × GS) = r0
  unfold b45
  refine aw_seq (aw_region_q r45_0 ?_)
  (repeat (first | simp [-invQ_normal, l45_0, a0, hg, wordC, aBin, aUn, pow2_ne, pow2_ne_i, eqCells, eqCell, int_beq, splice, alloc1_loc, box1_loc, bld, aFill] | simp (disch := omega) only [wrap_i64, wrap_u64, tmod_nn, tdiv_nn, idx_w, idx_i, app_w, and_u64n, or_u64n, andNot_u64n]))
  refine aw_seq (aw_region_q r45_1 ?_)
  (repeat (first | simp [-invQ_normal, l45_1, a0, hg, wordC, aBin, aUn, pow2_ne, pow2_ne_i, eqCells, eqCell, int_beq, splice, alloc1_loc, box1_loc, bld, aFill] | simp (disch := omega) only [wrap_i64, wrap_u64, tmod_nn, tdiv_nn, idx_w, idx_i, app_w, and_u64n, or_u64n, andNot_u64n]))
  refine aw_ret (retQ_vals (gs := gs) [.raw (.int .i64 p.1)] (.inr rfl) ?_ (by simp [givenAs, AVal.fixed, rawCell]) (by (repeat (first | simp [-invQ_normal, a0, hg, wordC, aBin, aUn, pow2_ne, pow2_ne_i, eqCells, eqCell, int_beq, splice, alloc1_loc, box1_loc, bld, aFill] | simp (disch := omega) only [wrap_i64, wrap_u64, tmod_nn, tdiv_nn, idx_w, idx_i, app_w, and_u64n, or_u64n, andNot_u64n]))) (by rw [← hr0]; first | done | rfl))
  (repeat (first | simp [-invQ_normal, resultOf, a0, hg, wordC, aBin, aUn, pow2_ne, pow2_ne_i, eqCells, eqCell, int_beq, splice, alloc1_loc, box1_loc, bld, aFill] | simp (disch := omega) only [wrap_i64, wrap_u64, tmod_nn, tdiv_nn, idx_w, idx_i, app_w, and_u64n, or_u64n, andNot_u64n]))
set_option maxHeartbeats 800000 in
theorem ev_put (p q : Int × Int) (hp : 0 ≤ p.2 ∧ p.2 < 18446744073709551616) (hq : 0 ≤ q.2 ∧ q.2 < 18446744073709551616) (t : Int) (d n1 n2 : Nat) (f : Int → Int → Int) (hd : Joins d f) (hed : E.eff d = false) (es : List (List AVal)) (hes : es.length ≤ 100000) (base : Nat) (gs : GS) (hb : base ≤ gs.n) (ho : GOut base gs n1 n2 (.clo d [] []) 2 es) : ∃ gs', Evals E 46 [.agg (wordC p), .agg (wordC q), .raw (.int .i64 t), .hp (.glob n1) 0 0 0, .hp (.glob n2) 0 0 0] base gs ([], gs') ∧ (fun gs' => GOut base gs' n1 n2 (.clo d [] []) 2 (es ++ putL t (f p.2 q.2)) ∧ gs.n ≤ gs'.n) gs' := by
  refine evals_walk_ex (fun gs' => GOut base gs' n1 n2 (.clo d [] []) 2 (es ++ putL t (f p.2 q.2)) ∧ gs.n ≤ gs'.n) 23 #[] rfl (by kernel_rfl) b46_eq (by kernel_rfl) (by kernel_rfl) (by simp) fun s hs hm => ?_
  have a0 : s.get 0 = .agg (wordC p) := by simpa using hs 0
  have a1 : s.get 1 = .agg (wordC q) := by simpa using hs 1
  have a2 : s.get 2 = .raw (.int .i64 t) := by simpa using hs 2
  have a3 : s.get 3 = .hp (.glob n1) 0 0 0 := by simpa using hs 3
  have a4 : s.get 4 = .hp (.glob n2) 0 0 0 := by simpa using hs 4
  have hg : s.m.gs = gs := by rw [hm]
  clear hs
  have o1 := ho.2.2.2.2.1
  generalize hr0 : ([] : List RV) = r0
  unfold b46
  refine aw_seq (aw_region_q r46_0 ?_)
  (repeat (first | simp [-invQ_normal, l46_0, a0, a1, a2, a3, a4, hg, o1, hed, wordC, aBin, aUn, pow2_ne, pow2_ne_i, eqCells, eqCell, int_beq, splice, alloc1_loc, box1_loc, bld, aFill] | simp (disch := omega) only [wobj_boxG, wrap_i64, wrap_u64, tmod_nn, tdiv_nn, idx_w, idx_i, app_w, and_u64n, or_u64n, andNot_u64n]))
  refine aw_seq (aw_region_q r46_1 ?_)
  (repeat (first | simp [-invQ_normal, l46_1, a0, a1, a2, a3, a4, hg, o1, hed, wordC, aBin, aUn, pow2_ne, pow2_ne_i, eqCells, eqCell, int_beq, splice, alloc1_loc, box1_loc, bld, aFill] | simp (disch := omega) only [wobj_boxG, wrap_i64, wrap_u64, tmod_nn, tdiv_nn, idx_w, idx_i, app_w, and_u64n, or_u64n, andNot_u64n]))
  refine wpC_vals ((hd p.2 q.2 hp.1 hp.2 hq.1 hq.2).2 _ _) (by simp) (by simp [isRow]) (by simp) (by first | simp | assumption) (by simp [plainArg, plain1, AVal.shared, AVal.shared.sharedOne, rawCell]) ⟨by simp, ?_⟩
  (repeat (first | simp [-invQ_normal, a0, a1, a2, a3, a4, hg, o1, hed, wordC, aBin, aUn, pow2_ne, pow2_ne_i, eqCells, eqCell, int_beq, splice, alloc1_loc, box1_loc, bld, aFill] | simp (disch := omega) only [wobj_boxG, wrap_i64, wrap_u64, tmod_nn, tdiv_nn, idx_w, idx_i, app_w, and_u64n, or_u64n, andNot_u64n]))
  refine aw_seq (aw_region_q r46_2 ?_)
  (repeat (first | simp [-invQ_normal, l46_2, a0, a1, a2, a3, a4, hg, o1, hed, wordC, aBin, aUn, pow2_ne, pow2_ne_i, eqCells, eqCell, int_beq, splice, alloc1_loc, box1_loc, bld, aFill] | simp (disch := omega) only [wobj_boxG, wrap_i64, wrap_u64, tmod_nn, tdiv_nn, idx_w, idx_i, app_w, and_u64n, or_u64n, andNot_u64n]))
  refine aw_cond_v ?_
  (repeat (first | simp [-invQ_normal, a0, a1, a2, a3, a4, hg, o1, hed, wordC, aBin, aUn, pow2_ne, pow2_ne_i, eqCells, eqCell, int_beq, splice, alloc1_loc, box1_loc, bld, aFill] | simp (disch := omega) only [wobj_boxG, wrap_i64, wrap_u64, tmod_nn, tdiv_nn, idx_w, idx_i, app_w, and_u64n, or_u64n, andNot_u64n]))
  refine condV_split ⟨_, rfl⟩ (fun c1 => ?_) (fun c1 => ?_)
  · simp only [AVal.raw.injEq, Value.bool.injEq, decide_eq_false_iff_not, decide_eq_true_eq, Bool.not_eq_true, Bool.not_eq_false, Bool.not_eq_eq_eq_not, Bool.not_true, Bool.not_false, Bool.and_eq_true, Bool.or_eq_true, Bool.or_eq_false_iff] at c1
    refine aw_region_q r46_3 ?_
    obtain ⟨va, o2, _, vs, vc⟩ := ho.val
    have ob := ho.1
    (repeat (first | simp [-invQ_normal, l46_3, a0, a1, a2, a3, a4, hg, o1, hed, c1, o2, vs, vc, wordC, aBin, aUn, pow2_ne, pow2_ne_i, eqCells, eqCell, int_beq, splice, alloc1_loc, box1_loc, bld, aFill] | simp (disch := omega) only [wobj_boxG, wrap_i64, wrap_u64, tmod_nn, tdiv_nn, idx_w, idx_i, app_w, and_u64n, or_u64n, andNot_u64n]))
    refine wpV_out ho o2 (by simp [hg]) (by simp [wordC]) (by simp [wordC]) (e_E_size_52 _) (e_E_bytes_52 _) (e_E_zero_52 _) rfl (by decide) (by decide) (by simp [maxBytes]; omega) hb (fun xo mo so o3 go no => ⟨by simp, ?_⟩)
    have co := shared_cells so
    (repeat (first | simp [-invQ_normal, a0, a1, a2, a3, a4, hg, o1, hed, c1, o2, vs, vc, so, o3, co, wordC, aBin, aUn, pow2_ne, pow2_ne_i, eqCells, eqCell, int_beq, splice, alloc1_loc, box1_loc, bld, aFill] | simp (disch := omega) only [wobj_boxG, wrap_i64, wrap_u64, tmod_nn, tdiv_nn, idx_w, idx_i, app_w, and_u64n, or_u64n, andNot_u64n]))
    -- end of function
    refine (retP_vals [] (.inl rfl) ?_ (by simp [givenOk, givenAs, AVal.fixed, rawCell]) (by rw [← hr0]; rfl) ?_)
    · (repeat (first | simp [-invQ_normal, resultOf, a0, a1, a2, a3, a4, hg, o1, hed, c1, o2, vs, vc, so, o3, co, wordC, aBin, aUn, pow2_ne, pow2_ne_i, eqCells, eqCell, int_beq, splice, alloc1_loc, box1_loc, bld, aFill] | simp (disch := omega) only [wobj_boxG, wrap_i64, wrap_u64, tmod_nn, tdiv_nn, idx_w, idx_i, app_w, and_u64n, or_u64n, andNot_u64n]))
    · (repeat (first | simp [-invQ_normal, a0, a1, a2, a3, a4, hg, o1, hed, c1, o2, vs, vc, so, o3, co, wordC, aBin, aUn, pow2_ne, pow2_ne_i, eqCells, eqCell, int_beq, splice, alloc1_loc, box1_loc, bld, aFill] | simp (disch := omega) only [wobj_boxG, wrap_i64, wrap_u64, tmod_nn, tdiv_nn, idx_w, idx_i, app_w, and_u64n, or_u64n, andNot_u64n])) <;> (have e : putL t (f p.2 q.2) = [[.raw (.int .i64 t), .raw (.int .u64 (f p.2 q.2))]] := (by simp_all [putL, putW, wordC]); rw [e]; exact ⟨go, no⟩)
  · simp only [AVal.raw.injEq, Value.bool.injEq, decide_eq_false_iff_not, decide_eq_true_eq, Bool.not_eq_true, Bool.not_eq_false, Bool.not_eq_eq_eq_not, Bool.not_true, Bool.not_false, Bool.and_eq_true, Bool.or_eq_true, Bool.or_eq_false_iff] at c1
    refine aw_skip ?_
    try simp only [seqQ_normal, seqQ_exit, seqQ_ret, blockQ_normal, blockQ_ret, blockQ_exit, invQ_exit, invQ_ret, endQ_eq, if_true, reduceIte, Nat.reduceEqDiff, reduceCtorEq]
    -- end of function
    refine (retP_vals [] (.inl rfl) ?_ (by simp [givenOk, givenAs, AVal.fixed, rawCell]) (by rw [← hr0]; rfl) ?_)
    · (repeat (first | simp [-invQ_normal, resultOf, a0, a1, a2, a3, a4, hg, o1, hed, c1, wordC, aBin, aUn, pow2_ne, pow2_ne_i, eqCells, eqCell, int_beq, splice, alloc1_loc, box1_loc, bld, aFill] | simp (disch := omega) only [wobj_boxG, wrap_i64, wrap_u64, tmod_nn, tdiv_nn, idx_w, idx_i, app_w, and_u64n, or_u64n, andNot_u64n]))
    · (repeat (first | simp [-invQ_normal, a0, a1, a2, a3, a4, hg, o1, hed, c1, wordC, aBin, aUn, pow2_ne, pow2_ne_i, eqCells, eqCell, int_beq, splice, alloc1_loc, box1_loc, bld, aFill] | simp (disch := omega) only [wobj_boxG, wrap_i64, wrap_u64, tmod_nn, tdiv_nn, idx_w, idx_i, app_w, and_u64n, or_u64n, andNot_u64n])) <;> (have e : putL t 0 = [] := (by simp [putL, putW]); rw [e, List.append_nil]; exact ho)
set_option maxHeartbeats 800000 in
theorem ev_merge (a b : List (Int × Int)) (la : a.length ≤ 20000) (lb : b.length ≤ 20000) (ha : bits64 a) (hbb : bits64 b) (d n1 n2 : Nat) (f : Int → Int → Int) (hd : Joins d f) (hed : E.eff d = false) (base : Nat) (gs : GS) (hb : base ≤ gs.n) (ho : GOut base gs n1 n2 (.clo d [] []) 2 []) : ∃ gs', Evals E 44 [.sl (a.map wordC), .sl (b.map wordC), .clo 45 [] [], .clo 46 [] [.hp (.glob n1) 0 0 0, .hp (.glob n2) 0 0 0]] base gs ([], gs') ∧ (fun gs' => GOut base gs' n1 n2 (.clo d [] []) 2 ((mergeW f a b).map wordC) ∧ gs.n ≤ gs'.n) gs' := by
  refine evals_walk_ex (fun gs' => GOut base gs' n1 n2 (.clo d [] []) 2 ((mergeW f a b).map wordC) ∧ gs.n ≤ gs'.n) 99 #[] rfl (by kernel_rfl) b44_eq (by kernel_rfl) (by kernel_rfl) (by simp) fun s hs hm => ?_
  have a0 : s.get 0 = .sl (a.map wordC) := by simpa using hs 0
  have a1 : s.get 1 = .sl (b.map wordC) := by simpa using hs 1
  have a2 : s.get 2 = .clo 45 [] [] := by simpa using hs 2
  have a3 : s.get 3 = .clo 46 [] [.hp (.glob n1) 0 0 0, .hp (.glob n2) 0 0 0] := by simpa using hs 3
  have hg : s.m.gs = gs := by rw [hm]
  clear hs
  generalize hr0 : ([] : List RV) = r0
  unfold b44
  refine aw_seq (aw_region_q r44_0 ?_)
  (repeat (first | simp [-invQ_normal, l44_0, a0, a1, a2, a3, hg, hed, wordC, aBin, aUn, pow2_ne, pow2_ne_i, eqCells, eqCell, int_beq, splice, alloc1_loc, box1_loc, bld, aFill] | simp (disch := omega) only [idx_w22, slc1_w, wrap_i64, wrap_u64, tmod_nn, tdiv_nn, idx_w, idx_i, app_w, and_u64n, or_u64n, andNot_u64n]))
  refine aw_block ?_
  obtain ⟨I1, hI1⟩ : ∃ I : Nat → St → Prop, I = fun k s => ∃ (x : List (Int × Int)) (y : List (Int × Int)) (es : List (Int × Int)) (G : Nat), k = x.length + y.length ∧ s.get 0 = .sl (x.map wordC) ∧ s.get 1 = .sl (y.map wordC) ∧ s.get 2 = .clo 45 [] [] ∧ s.get 3 = .clo 46 [] [.hp (.glob n1) 0 0 0, .hp (.glob n2) 0 0 0] ∧ s.get 8 = .hp (.loc 32) G 0 0 ∧ gs.n ≤ s.m.gs.n ∧ GOut base s.m.gs n1 n2 (.clo d [] []) 2 (es.map wordC) ∧ s.m.obj (.loc 32) = ⟨G, .box [.raw (.int .i64 0), .raw (.int .u64 0)]⟩ ∧ (es ++ mergeW f x y = mergeW f a b) ∧ (es.length + x.length + y.length ≤ 40000) ∧ (bits64 x) ∧ (bits64 y) := ⟨_, rfl⟩
  refine aw_inv2 I1 ?_ ?_
  · rw [hI1]
    refine ⟨_, a, b, [], genOf s.m 32, rfl, ?_⟩
    (repeat (first | simp [-invQ_normal, a0, a1, a2, a3, hg, hed, wordC, aBin, aUn, pow2_ne, pow2_ne_i, eqCells, eqCell, int_beq, splice, alloc1_loc, box1_loc, bld, aFill] | simp (disch := omega) only [idx_w22, slc1_w, wrap_i64, wrap_u64, tmod_nn, tdiv_nn, idx_w, idx_i, app_w, and_u64n, or_u64n, andNot_u64n])) <;> (exact ⟨ho, by omega, ha, hbb⟩)
  · intro k s hI0
    rw [hI1] at hI0
    obtain ⟨x, y, es, G, k2, i3_0, i4_1, i5_2, i6_3, i7_8, hn, hO, o8, hm2, hle, hx, hy⟩ := hI0
    unfold b44_L0
    refine aw_seq ?_
    refine aw_seq (aw_region_q r44_1 ?_)
    (repeat (first | simp [-invQ_normal, l44_1, hed, i3_0, i4_1, i5_2, i6_3, i7_8, hn, hO, o8, wordC, aBin, aUn, pow2_ne, pow2_ne_i, eqCells, eqCell, int_beq, splice, alloc1_loc, box1_loc, bld, aFill] | simp (disch := omega) only [idx_w22, slc1_w, wrap_i64, wrap_u64, tmod_nn, tdiv_nn, idx_w, idx_i, app_w, and_u64n, or_u64n, andNot_u64n]))
    refine wpG_split ⟨_, rfl⟩ (fun g12 => ?_) (fun g12 => ?_)
    · simp only [AVal.raw.injEq, Value.bool.injEq, decide_eq_false_iff_not, decide_eq_true_eq, Bool.not_eq_true, Bool.not_eq_false, Bool.not_eq_eq_eq_not, Bool.not_true, Bool.not_false, Bool.and_eq_true, Bool.or_eq_true, Bool.or_eq_false_iff] at g12
      (repeat (first | simp [-invQ_normal, hed, i3_0, i4_1, i5_2, i6_3, i7_8, hn, hO, o8, g12, wordC, aBin, aUn, pow2_ne, pow2_ne_i, eqCells, eqCell, int_beq, splice, alloc1_loc, box1_loc, bld, aFill] | simp (disch := omega) only [idx_w22, slc1_w, wrap_i64, wrap_u64, tmod_nn, tdiv_nn, idx_w, idx_i, app_w, and_u64n, or_u64n, andNot_u64n]))
      refine aw_cond_1 (by (repeat (first | simp [-invQ_normal, hed, i3_0, i4_1, i5_2, i6_3, i7_8, hn, hO, o8, g12, wordC, aBin, aUn, pow2_ne, pow2_ne_i, eqCells, eqCell, int_beq, splice, alloc1_loc, box1_loc, bld, aFill] | simp (disch := omega) only [idx_w22, slc1_w, wrap_i64, wrap_u64, tmod_nn, tdiv_nn, idx_w, idx_i, app_w, and_u64n, or_u64n, andNot_u64n]))) ?_
      refine aw_skip ?_
      try simp only [seqQ_normal, seqQ_exit, seqQ_ret, blockQ_normal, blockQ_ret, blockQ_exit, invQ_exit, invQ_ret, endQ_eq, if_true, reduceIte, Nat.reduceEqDiff, reduceCtorEq]
      refine aw_block ?_
      refine aw_block ?_
      refine aw_seq (aw_region_d r44_4 ?_)
      (repeat (first | simp [-invQ_normal, l44_4, hed, i3_0, i4_1, i5_2, i6_3, i7_8, hn, hO, o8, g12, wordC, aBin, aUn, pow2_ne, pow2_ne_i, eqCells, eqCell, int_beq, splice, alloc1_loc, box1_loc, bld, aFill] | simp (disch := omega) only [idx_w22, slc1_w, wrap_i64, wrap_u64, tmod_nn, tdiv_nn, idx_w, idx_i, app_w, and_u64n, or_u64n, andNot_u64n]))
      refine wpG_split ⟨_, rfl⟩ (fun g13 => ?_) (fun g13 => ?_)
      · simp only [AVal.raw.injEq, Value.bool.injEq, decide_eq_false_iff_not, decide_eq_true_eq, Bool.not_eq_true, Bool.not_eq_false, Bool.not_eq_eq_eq_not, Bool.not_true, Bool.not_false, Bool.and_eq_true, Bool.or_eq_true, Bool.or_eq_false_iff] at g13
        have hy1 : y.length = 0 := (by rw [g13]; rfl)
        (repeat (first | simp [-invQ_normal, hed, i3_0, i4_1, i5_2, i6_3, i7_8, hn, hO, o8, g12, g13, wordC, aBin, aUn, pow2_ne, pow2_ne_i, eqCells, eqCell, int_beq, splice, alloc1_loc, box1_loc, bld, aFill] | simp (disch := omega) only [idx_w22, slc1_w, wrap_i64, wrap_u64, tmod_nn, tdiv_nn, idx_w, idx_i, app_w, and_u64n, or_u64n, andNot_u64n]))
        refine aw_cond_1 (by (repeat (first | simp [-invQ_normal, hed, i3_0, i4_1, i5_2, i6_3, i7_8, hn, hO, o8, g12, g13, wordC, aBin, aUn, pow2_ne, pow2_ne_i, eqCells, eqCell, int_beq, splice, alloc1_loc, box1_loc, bld, aFill] | simp (disch := omega) only [idx_w22, slc1_w, wrap_i64, wrap_u64, tmod_nn, tdiv_nn, idx_w, idx_i, app_w, and_u64n, or_u64n, andNot_u64n]))) ?_
        refine aw_seq (aw_region_x r44_5 [false,false,false,false,false,false,false,false,false,false,true] (by kernel_rfl) ?_)
        (repeat (first | simp [-invQ_normal, l44_5, hed, i3_0, i4_1, i5_2, i6_3, i7_8, hn, hO, o8, g12, g13, wordC, aBin, aUn, pow2_ne, pow2_ne_i, eqCells, eqCell, int_beq, splice, alloc1_loc, box1_loc, bld, aFill] | simp (disch := omega) only [idx_w22, slc1_w, wrap_i64, wrap_u64, tmod_nn, tdiv_nn, idx_w, idx_i, app_w, and_u64n, or_u64n, andNot_u64n]))
        refine wpC_vals (ev_key _ _ _) (by simp) (by simp [isRow]) (by simp) (by first | simp | assumption) (by simp [plainArg, plain1, AVal.shared, AVal.shared.sharedOne, rawCell]) ⟨by simp, ?_⟩
        (repeat (first | simp [-invQ_normal, hed, i3_0, i4_1, i5_2, i6_3, i7_8, hn, hO, o8, g12, g13, wordC, aBin, aUn, pow2_ne, pow2_ne_i, eqCells, eqCell, int_beq, splice, alloc1_loc, box1_loc, bld, aFill] | simp (disch := omega) only [idx_w22, slc1_w, wrap_i64, wrap_u64, tmod_nn, tdiv_nn, idx_w, idx_i, app_w, and_u64n, or_u64n, andNot_u64n]))
        refine wpC_eff (ev_put x[0] (0, 0) (bits_get hx (by omega)) (by simp) x[0].1 d n1 n2 f hd hed _ (by simp; omega) base s.m.gs (by omega) hO) (by simp) (by simp [isRow]) (by simp) (by simp) (by simp [plainArg, plain1, AVal.shared, AVal.shared.sharedOne, rawCell]) (fun gse14 pe14 => ⟨by simp, ?_⟩)
        (repeat (first | simp [-invQ_normal, hed, i3_0, i4_1, i5_2, i6_3, i7_8, hn, hO, o8, g12, g13, wordC, aBin, aUn, pow2_ne, pow2_ne_i, eqCells, eqCell, int_beq, splice, alloc1_loc, box1_loc, bld, aFill] | simp (disch := omega) only [idx_w22, slc1_w, wrap_i64, wrap_u64, tmod_nn, tdiv_nn, idx_w, idx_i, app_w, and_u64n, or_u64n, andNot_u64n]))
        refine aw_region_q r44_6 ?_
        (repeat (first | simp [-invQ_normal, l44_6, hed, i3_0, i4_1, i5_2, i6_3, i7_8, hn, hO, o8, g12, g13, wordC, aBin, aUn, pow2_ne, pow2_ne_i, eqCells, eqCell, int_beq, splice, alloc1_loc, box1_loc, bld, aFill] | simp (disch := omega) only [idx_w22, slc1_w, wrap_i64, wrap_u64, tmod_nn, tdiv_nn, idx_w, idx_i, app_w, and_u64n, or_u64n, andNot_u64n]))
        -- cont 0: t11=T t37=T
        simp only [invQ_normal]
        rw [hI1]
        refine ⟨_, ?_, x.tail, y, es ++ putW x[0].1 (f x[0].2 0), G, rfl, ?_⟩
        · (simp only [List.length_tail]; omega)
        · (repeat (first | simp [-invQ_normal, hed, i3_0, i4_1, i5_2, i6_3, i7_8, hn, hO, o8, g12, g13, wordC, aBin, aUn, pow2_ne, pow2_ne_i, eqCells, eqCell, int_beq, splice, alloc1_loc, box1_loc, bld, aFill] | simp (disch := omega) only [idx_w22, slc1_w, wrap_i64, wrap_u64, tmod_nn, tdiv_nn, idx_w, idx_i, app_w, and_u64n, or_u64n, andNot_u64n])) <;> (obtain rfl : y = [] := List.eq_nil_of_length_eq_zero (by omega); simp only [List.length_nil] at *; have e := mergeW_x (f := f) (x := x) (y := []) (by omega) (.inl rfl); have := putW_len x[0].1 (f x[0].2 0); exact ⟨by omega, pe14.1, by rw [← hm2, e], by omega, bits_tail hx, hy⟩)
      · simp only [AVal.raw.injEq, Value.bool.injEq, decide_eq_false_iff_not, decide_eq_true_eq, Bool.not_eq_true, Bool.not_eq_false, Bool.not_eq_eq_eq_not, Bool.not_true, Bool.not_false, Bool.and_eq_true, Bool.or_eq_true, Bool.or_eq_false_iff] at g13
        have hy0 : 0 < y.length := List.length_pos_iff.2 g13
        (repeat (first | simp [-invQ_normal, hed, i3_0, i4_1, i5_2, i6_3, i7_8, hn, hO, o8, g12, g13, wordC, aBin, aUn, pow2_ne, pow2_ne_i, eqCells, eqCell, int_beq, splice, alloc1_loc, box1_loc, bld, aFill] | simp (disch := omega) only [idx_w22, slc1_w, wrap_i64, wrap_u64, tmod_nn, tdiv_nn, idx_w, idx_i, app_w, and_u64n, or_u64n, andNot_u64n]))
        refine wpC_vals (ev_key _ _ _) (by simp) (by simp [isRow]) (by simp) (by first | simp | assumption) (by simp [plainArg, plain1, AVal.shared, AVal.shared.sharedOne, rawCell]) ⟨by simp, ?_⟩
        (repeat (first | simp [-invQ_normal, hed, i3_0, i4_1, i5_2, i6_3, i7_8, hn, hO, o8, g12, g13, wordC, aBin, aUn, pow2_ne, pow2_ne_i, eqCells, eqCell, int_beq, splice, alloc1_loc, box1_loc, bld, aFill] | simp (disch := omega) only [idx_w22, slc1_w, wrap_i64, wrap_u64, tmod_nn, tdiv_nn, idx_w, idx_i, app_w, and_u64n, or_u64n, andNot_u64n]))
        refine wpC_vals (ev_key _ _ _) (by simp) (by simp [isRow]) (by simp) (by first | simp | assumption) (by simp [plainArg, plain1, AVal.shared, AVal.shared.sharedOne, rawCell]) ⟨by simp, ?_⟩
        (repeat (first | simp [-invQ_normal, hed, i3_0, i4_1, i5_2, i6_3, i7_8, hn, hO, o8, g12, g13, wordC, aBin, aUn, pow2_ne, pow2_ne_i, eqCells, eqCell, int_beq, splice, alloc1_loc, box1_loc, bld, aFill] | simp (disch := omega) only [idx_w22, slc1_w, wrap_i64, wrap_u64, tmod_nn, tdiv_nn, idx_w, idx_i, app_w, and_u64n, or_u64n, andNot_u64n]))
        refine aw_cond_v ?_
        (repeat (first | simp [-invQ_normal, hed, i3_0, i4_1, i5_2, i6_3, i7_8, hn, hO, o8, g12, g13, wordC, aBin, aUn, pow2_ne, pow2_ne_i, eqCells, eqCell, int_beq, splice, alloc1_loc, box1_loc, bld, aFill] | simp (disch := omega) only [idx_w22, slc1_w, wrap_i64, wrap_u64, tmod_nn, tdiv_nn, idx_w, idx_i, app_w, and_u64n, or_u64n, andNot_u64n]))
        refine condV_split ⟨_, rfl⟩ (fun c15 => ?_) (fun c15 => ?_)
        · simp only [AVal.raw.injEq, Value.bool.injEq, decide_eq_false_iff_not, decide_eq_true_eq, Bool.not_eq_true, Bool.not_eq_false, Bool.not_eq_eq_eq_not, Bool.not_true, Bool.not_false, Bool.and_eq_true, Bool.or_eq_true, Bool.or_eq_false_iff] at c15
          refine aw_seq (aw_region_x r44_5 [false,false,false,false,false,false,false,false,false,false,true] (by kernel_rfl) ?_)
          (repeat (first | simp [-invQ_normal, l44_5, hed, i3_0, i4_1, i5_2, i6_3, i7_8, hn, hO, o8, g12, g13, c15, wordC, aBin, aUn, pow2_ne, pow2_ne_i, eqCells, eqCell, int_beq, splice, alloc1_loc, box1_loc, bld, aFill] | simp (disch := omega) only [idx_w22, slc1_w, wrap_i64, wrap_u64, tmod_nn, tdiv_nn, idx_w, idx_i, app_w, and_u64n, or_u64n, andNot_u64n]))
          refine wpC_vals (ev_key _ _ _) (by simp) (by simp [isRow]) (by simp) (by first | simp | assumption) (by simp [plainArg, plain1, AVal.shared, AVal.shared.sharedOne, rawCell]) ⟨by simp, ?_⟩
          (repeat (first | simp [-invQ_normal, hed, i3_0, i4_1, i5_2, i6_3, i7_8, hn, hO, o8, g12, g13, c15, wordC, aBin, aUn, pow2_ne, pow2_ne_i, eqCells, eqCell, int_beq, splice, alloc1_loc, box1_loc, bld, aFill] | simp (disch := omega) only [idx_w22, slc1_w, wrap_i64, wrap_u64, tmod_nn, tdiv_nn, idx_w, idx_i, app_w, and_u64n, or_u64n, andNot_u64n]))
          refine wpC_eff (ev_put x[0] (0, 0) (bits_get hx (by omega)) (by simp) x[0].1 d n1 n2 f hd hed _ (by simp; omega) base s.m.gs (by omega) hO) (by simp) (by simp [isRow]) (by simp) (by simp) (by simp [plainArg, plain1, AVal.shared, AVal.shared.sharedOne, rawCell]) (fun gse16 pe16 => ⟨by simp, ?_⟩)
          (repeat (first | simp [-invQ_normal, hed, i3_0, i4_1, i5_2, i6_3, i7_8, hn, hO, o8, g12, g13, c15, wordC, aBin, aUn, pow2_ne, pow2_ne_i, eqCells, eqCell, int_beq, splice, alloc1_loc, box1_loc, bld, aFill] | simp (disch := omega) only [idx_w22, slc1_w, wrap_i64, wrap_u64, tmod_nn, tdiv_nn, idx_w, idx_i, app_w, and_u64n, or_u64n, andNot_u64n]))
          refine aw_region_q r44_6 ?_
          (repeat (first | simp [-invQ_normal, l44_6, hed, i3_0, i4_1, i5_2, i6_3, i7_8, hn, hO, o8, g12, g13, c15, wordC, aBin, aUn, pow2_ne, pow2_ne_i, eqCells, eqCell, int_beq, splice, alloc1_loc, box1_loc, bld, aFill] | simp (disch := omega) only [idx_w22, slc1_w, wrap_i64, wrap_u64, tmod_nn, tdiv_nn, idx_w, idx_i, app_w, and_u64n, or_u64n, andNot_u64n]))
          -- cont 1: t11=T t37=F t41=T t53=T
          simp only [invQ_normal]
          rw [hI1]
          refine ⟨_, ?_, x.tail, y, es ++ putW x[0].1 (f x[0].2 0), G, rfl, ?_⟩
          · (simp only [List.length_tail]; omega)
          · (repeat (first | simp [-invQ_normal, hed, i3_0, i4_1, i5_2, i6_3, i7_8, hn, hO, o8, g12, g13, c15, wordC, aBin, aUn, pow2_ne, pow2_ne_i, eqCells, eqCell, int_beq, splice, alloc1_loc, box1_loc, bld, aFill] | simp (disch := omega) only [idx_w22, slc1_w, wrap_i64, wrap_u64, tmod_nn, tdiv_nn, idx_w, idx_i, app_w, and_u64n, or_u64n, andNot_u64n])) <;> (have e := mergeW_x (f := f) (x := x) (y := y) (by omega) (.inr ⟨by omega, by assumption⟩); have := putW_len x[0].1 (f x[0].2 0); exact ⟨by omega, pe16.1, by rw [← hm2, e], by omega, bits_tail hx, hy⟩)
        · simp only [AVal.raw.injEq, Value.bool.injEq, decide_eq_false_iff_not, decide_eq_true_eq, Bool.not_eq_true, Bool.not_eq_false, Bool.not_eq_eq_eq_not, Bool.not_true, Bool.not_false, Bool.and_eq_true, Bool.or_eq_true, Bool.or_eq_false_iff] at c15
          refine aw_seq (aw_region_d r44_7 ?_)
          (repeat (first | simp [-invQ_normal, l44_7, hed, i3_0, i4_1, i5_2, i6_3, i7_8, hn, hO, o8, g12, g13, c15, wordC, aBin, aUn, pow2_ne, pow2_ne_i, eqCells, eqCell, int_beq, splice, alloc1_loc, box1_loc, bld, aFill] | simp (disch := omega) only [idx_w22, slc1_w, wrap_i64, wrap_u64, tmod_nn, tdiv_nn, idx_w, idx_i, app_w, and_u64n, or_u64n, andNot_u64n]))
          refine wpG_split ⟨_, rfl⟩ (fun g17 => ?_) (fun g17 => ?_)
          · simp only [AVal.raw.injEq, Value.bool.injEq, decide_eq_false_iff_not, decide_eq_true_eq, Bool.not_eq_true, Bool.not_eq_false, Bool.not_eq_eq_eq_not, Bool.not_true, Bool.not_false, Bool.and_eq_true, Bool.or_eq_true, Bool.or_eq_false_iff] at g17
            have hx1 : x.length = 0 := (by rw [g17]; rfl)
            (repeat (first | simp [-invQ_normal, hed, i3_0, i4_1, i5_2, i6_3, i7_8, hn, hO, o8, g12, g13, c15, g17, wordC, aBin, aUn, pow2_ne, pow2_ne_i, eqCells, eqCell, int_beq, splice, alloc1_loc, box1_loc, bld, aFill] | simp (disch := omega) only [idx_w22, slc1_w, wrap_i64, wrap_u64, tmod_nn, tdiv_nn, idx_w, idx_i, app_w, and_u64n, or_u64n, andNot_u64n]))
            refine aw_cond_1 (by (repeat (first | simp [-invQ_normal, hed, i3_0, i4_1, i5_2, i6_3, i7_8, hn, hO, o8, g12, g13, c15, g17, wordC, aBin, aUn, pow2_ne, pow2_ne_i, eqCells, eqCell, int_beq, splice, alloc1_loc, box1_loc, bld, aFill] | simp (disch := omega) only [idx_w22, slc1_w, wrap_i64, wrap_u64, tmod_nn, tdiv_nn, idx_w, idx_i, app_w, and_u64n, or_u64n, andNot_u64n]))) ?_
            refine aw_seq (aw_region_x r44_8 [false,false,false,false,false,false,false,false,false,false,true] (by kernel_rfl) ?_)
            (repeat (first | simp [-invQ_normal, l44_8, hed, i3_0, i4_1, i5_2, i6_3, i7_8, hn, hO, o8, g12, g13, c15, g17, wordC, aBin, aUn, pow2_ne, pow2_ne_i, eqCells, eqCell, int_beq, splice, alloc1_loc, box1_loc, bld, aFill] | simp (disch := omega) only [idx_w22, slc1_w, wrap_i64, wrap_u64, tmod_nn, tdiv_nn, idx_w, idx_i, app_w, and_u64n, or_u64n, andNot_u64n]))
            refine wpC_vals (ev_key _ _ _) (by simp) (by simp [isRow]) (by simp) (by first | simp | assumption) (by simp [plainArg, plain1, AVal.shared, AVal.shared.sharedOne, rawCell]) ⟨by simp, ?_⟩
            (repeat (first | simp [-invQ_normal, hed, i3_0, i4_1, i5_2, i6_3, i7_8, hn, hO, o8, g12, g13, c15, g17, wordC, aBin, aUn, pow2_ne, pow2_ne_i, eqCells, eqCell, int_beq, splice, alloc1_loc, box1_loc, bld, aFill] | simp (disch := omega) only [idx_w22, slc1_w, wrap_i64, wrap_u64, tmod_nn, tdiv_nn, idx_w, idx_i, app_w, and_u64n, or_u64n, andNot_u64n]))
            refine wpC_eff (ev_put (0, 0) y[0] (by simp) (bits_get hy (by omega)) y[0].1 d n1 n2 f hd hed _ (by simp; omega) base s.m.gs (by omega) hO) (by simp) (by simp [isRow]) (by simp) (by simp) (by simp [plainArg, plain1, AVal.shared, AVal.shared.sharedOne, rawCell]) (fun gse18 pe18 => ⟨by simp, ?_⟩)
            (repeat (first | simp [-invQ_normal, hed, i3_0, i4_1, i5_2, i6_3, i7_8, hn, hO, o8, g12, g13, c15, g17, wordC, aBin, aUn, pow2_ne, pow2_ne_i, eqCells, eqCell, int_beq, splice, alloc1_loc, box1_loc, bld, aFill] | simp (disch := omega) only [idx_w22, slc1_w, wrap_i64, wrap_u64, tmod_nn, tdiv_nn, idx_w, idx_i, app_w, and_u64n, or_u64n, andNot_u64n]))
            refine aw_region_q r44_9 ?_
            (repeat (first | simp [-invQ_normal, l44_9, hed, i3_0, i4_1, i5_2, i6_3, i7_8, hn, hO, o8, g12, g13, c15, g17, wordC, aBin, aUn, pow2_ne, pow2_ne_i, eqCells, eqCell, int_beq, splice, alloc1_loc, box1_loc, bld, aFill] | simp (disch := omega) only [idx_w22, slc1_w, wrap_i64, wrap_u64, tmod_nn, tdiv_nn, idx_w, idx_i, app_w, and_u64n, or_u64n, andNot_u64n]))
            -- cont 2: t11=T t37=F t41=T t53=F t72=T
            simp only [invQ_normal]
            rw [hI1]
            refine ⟨_, ?_, x, y.tail, es ++ putW y[0].1 (f 0 y[0].2), G, rfl, ?_⟩
            · (simp only [List.length_tail]; omega)
            · (repeat (first | simp [-invQ_normal, hed, i3_0, i4_1, i5_2, i6_3, i7_8, hn, hO, o8, g12, g13, c15, g17, wordC, aBin, aUn, pow2_ne, pow2_ne_i, eqCells, eqCell, int_beq, splice, alloc1_loc, box1_loc, bld, aFill] | simp (disch := omega) only [idx_w22, slc1_w, wrap_i64, wrap_u64, tmod_nn, tdiv_nn, idx_w, idx_i, app_w, and_u64n, or_u64n, andNot_u64n])) <;> (exfalso; omega)
          · simp only [AVal.raw.injEq, Value.bool.injEq, decide_eq_false_iff_not, decide_eq_true_eq, Bool.not_eq_true, Bool.not_eq_false, Bool.not_eq_eq_eq_not, Bool.not_true, Bool.not_false, Bool.and_eq_true, Bool.or_eq_true, Bool.or_eq_false_iff] at g17
            have hx0 : 0 < x.length := List.length_pos_iff.2 g17
            (repeat (first | simp [-invQ_normal, hed, i3_0, i4_1, i5_2, i6_3, i7_8, hn, hO, o8, g12, g13, c15, g17, wordC, aBin, aUn, pow2_ne, pow2_ne_i, eqCells, eqCell, int_beq, splice, alloc1_loc, box1_loc, bld, aFill] | simp (disch := omega) only [idx_w22, slc1_w, wrap_i64, wrap_u64, tmod_nn, tdiv_nn, idx_w, idx_i, app_w, and_u64n, or_u64n, andNot_u64n]))
            refine wpC_vals (ev_key _ _ _) (by simp) (by simp [isRow]) (by simp) (by first | simp | assumption) (by simp [plainArg, plain1, AVal.shared, AVal.shared.sharedOne, rawCell]) ⟨by simp, ?_⟩
            (repeat (first | simp [-invQ_normal, hed, i3_0, i4_1, i5_2, i6_3, i7_8, hn, hO, o8, g12, g13, c15, g17, wordC, aBin, aUn, pow2_ne, pow2_ne_i, eqCells, eqCell, int_beq, splice, alloc1_loc, box1_loc, bld, aFill] | simp (disch := omega) only [idx_w22, slc1_w, wrap_i64, wrap_u64, tmod_nn, tdiv_nn, idx_w, idx_i, app_w, and_u64n, or_u64n, andNot_u64n]))
            refine wpC_vals (ev_key _ _ _) (by simp) (by simp [isRow]) (by simp) (by first | simp | assumption) (by simp [plainArg, plain1, AVal.shared, AVal.shared.sharedOne, rawCell]) ⟨by simp, ?_⟩
            (repeat (first | simp [-invQ_normal, hed, i3_0, i4_1, i5_2, i6_3, i7_8, hn, hO, o8, g12, g13, c15, g17, wordC, aBin, aUn, pow2_ne, pow2_ne_i, eqCells, eqCell, int_beq, splice, alloc1_loc, box1_loc, bld, aFill] | simp (disch := omega) only [idx_w22, slc1_w, wrap_i64, wrap_u64, tmod_nn, tdiv_nn, idx_w, idx_i, app_w, and_u64n, or_u64n, andNot_u64n]))
            refine aw_cond_v ?_
            (repeat (first | simp [-invQ_normal, hed, i3_0, i4_1, i5_2, i6_3, i7_8, hn, hO, o8, g12, g13, c15, g17, wordC, aBin, aUn, pow2_ne, pow2_ne_i, eqCells, eqCell, int_beq, splice, alloc1_loc, box1_loc, bld, aFill] | simp (disch := omega) only [idx_w22, slc1_w, wrap_i64, wrap_u64, tmod_nn, tdiv_nn, idx_w, idx_i, app_w, and_u64n, or_u64n, andNot_u64n]))
            refine condV_split ⟨_, rfl⟩ (fun c19 => ?_) (fun c19 => ?_)
            · simp only [AVal.raw.injEq, Value.bool.injEq, decide_eq_false_iff_not, decide_eq_true_eq, Bool.not_eq_true, Bool.not_eq_false, Bool.not_eq_eq_eq_not, Bool.not_true, Bool.not_false, Bool.and_eq_true, Bool.or_eq_true, Bool.or_eq_false_iff] at c19
              refine aw_seq (aw_region_x r44_8 [false,false,false,false,false,false,false,false,false,false,true] (by kernel_rfl) ?_)
              (repeat (first | simp [-invQ_normal, l44_8, hed, i3_0, i4_1, i5_2, i6_3, i7_8, hn, hO, o8, g12, g13, c15, g17, c19, wordC, aBin, aUn, pow2_ne, pow2_ne_i, eqCells, eqCell, int_beq, splice, alloc1_loc, box1_loc, bld, aFill] | simp (disch := omega) only [idx_w22, slc1_w, wrap_i64, wrap_u64, tmod_nn, tdiv_nn, idx_w, idx_i, app_w, and_u64n, or_u64n, andNot_u64n]))
              refine wpC_vals (ev_key _ _ _) (by simp) (by simp [isRow]) (by simp) (by first | simp | assumption) (by simp [plainArg, plain1, AVal.shared, AVal.shared.sharedOne, rawCell]) ⟨by simp, ?_⟩
              (repeat (first | simp [-invQ_normal, hed, i3_0, i4_1, i5_2, i6_3, i7_8, hn, hO, o8, g12, g13, c15, g17, c19, wordC, aBin, aUn, pow2_ne, pow2_ne_i, eqCells, eqCell, int_beq, splice, alloc1_loc, box1_loc, bld, aFill] | simp (disch := omega) only [idx_w22, slc1_w, wrap_i64, wrap_u64, tmod_nn, tdiv_nn, idx_w, idx_i, app_w, and_u64n, or_u64n, andNot_u64n]))
              refine wpC_eff (ev_put (0, 0) y[0] (by simp) (bits_get hy (by omega)) y[0].1 d n1 n2 f hd hed _ (by simp; omega) base s.m.gs (by omega) hO) (by simp) (by simp [isRow]) (by simp) (by simp) (by simp [plainArg, plain1, AVal.shared, AVal.shared.sharedOne, rawCell]) (fun gse20 pe20 => ⟨by simp, ?_⟩)
              (repeat (first | simp [-invQ_normal, hed, i3_0, i4_1, i5_2, i6_3, i7_8, hn, hO, o8, g12, g13, c15, g17, c19, wordC, aBin, aUn, pow2_ne, pow2_ne_i, eqCells, eqCell, int_beq, splice, alloc1_loc, box1_loc, bld, aFill] | simp (disch := omega) only [idx_w22, slc1_w, wrap_i64, wrap_u64, tmod_nn, tdiv_nn, idx_w, idx_i, app_w, and_u64n, or_u64n, andNot_u64n]))
              refine aw_region_q r44_9 ?_
              (repeat (first | simp [-invQ_normal, l44_9, hed, i3_0, i4_1, i5_2, i6_3, i7_8, hn, hO, o8, g12, g13, c15, g17, c19, wordC, aBin, aUn, pow2_ne, pow2_ne_i, eqCells, eqCell, int_beq, splice, alloc1_loc, box1_loc, bld, aFill] | simp (disch := omega) only [idx_w22, slc1_w, wrap_i64, wrap_u64, tmod_nn, tdiv_nn, idx_w, idx_i, app_w, and_u64n, or_u64n, andNot_u64n]))
              -- cont 3: t11=T t37=F t41=T t53=F t72=F t84=T
              simp only [invQ_normal]
              rw [hI1]
              refine ⟨_, ?_, x, y.tail, es ++ putW y[0].1 (f 0 y[0].2), G, rfl, ?_⟩
              · (simp only [List.length_tail]; omega)
              · (repeat (first | simp [-invQ_normal, hed, i3_0, i4_1, i5_2, i6_3, i7_8, hn, hO, o8, g12, g13, c15, g17, c19, wordC, aBin, aUn, pow2_ne, pow2_ne_i, eqCells, eqCell, int_beq, splice, alloc1_loc, box1_loc, bld, aFill] | simp (disch := omega) only [idx_w22, slc1_w, wrap_i64, wrap_u64, tmod_nn, tdiv_nn, idx_w, idx_i, app_w, and_u64n, or_u64n, andNot_u64n])) <;> (have e := mergeW_y (f := f) (x := x) (y := y) (by omega) (.inr ⟨by omega, by assumption⟩); have := putW_len y[0].1 (f 0 y[0].2); exact ⟨by omega, pe20.1, by rw [← hm2, e], by omega, hx, bits_tail hy⟩)
            · simp only [AVal.raw.injEq, Value.bool.injEq, decide_eq_false_iff_not, decide_eq_true_eq, Bool.not_eq_true, Bool.not_eq_false, Bool.not_eq_eq_eq_not, Bool.not_true, Bool.not_false, Bool.and_eq_true, Bool.or_eq_true, Bool.or_eq_false_iff] at c19
              refine aw_seq (aw_region_x r44_2 [false,false,false,false,false,false,false,false,false,false,false,false,true] (by kernel_rfl) ?_)
              (repeat (first | simp [-invQ_normal, l44_2, hed, i3_0, i4_1, i5_2, i6_3, i7_8, hn, hO, o8, g12, g13, c15, g17, c19, wordC, aBin, aUn, pow2_ne, pow2_ne_i, eqCells, eqCell, int_beq, splice, alloc1_loc, box1_loc, bld, aFill] | simp (disch := omega) only [idx_w22, slc1_w, wrap_i64, wrap_u64, tmod_nn, tdiv_nn, idx_w, idx_i, app_w, and_u64n, or_u64n, andNot_u64n]))
              refine wpC_vals (ev_key _ _ _) (by simp) (by simp [isRow]) (by simp) (by first | simp | assumption) (by simp [plainArg, plain1, AVal.shared, AVal.shared.sharedOne, rawCell]) ⟨by simp, ?_⟩
              (repeat (first | simp [-invQ_normal, hed, i3_0, i4_1, i5_2, i6_3, i7_8, hn, hO, o8, g12, g13, c15, g17, c19, wordC, aBin, aUn, pow2_ne, pow2_ne_i, eqCells, eqCell, int_beq, splice, alloc1_loc, box1_loc, bld, aFill] | simp (disch := omega) only [idx_w22, slc1_w, wrap_i64, wrap_u64, tmod_nn, tdiv_nn, idx_w, idx_i, app_w, and_u64n, or_u64n, andNot_u64n]))
              refine wpC_eff (ev_put x[0] y[0] (bits_get hx (by omega)) (bits_get hy (by omega)) x[0].1 d n1 n2 f hd hed _ (by simp; omega) base s.m.gs (by omega) hO) (by simp) (by simp [isRow]) (by simp) (by simp) (by simp [plainArg, plain1, AVal.shared, AVal.shared.sharedOne, rawCell]) (fun gse21 pe21 => ⟨by simp, ?_⟩)
              (repeat (first | simp [-invQ_normal, hed, i3_0, i4_1, i5_2, i6_3, i7_8, hn, hO, o8, g12, g13, c15, g17, c19, wordC, aBin, aUn, pow2_ne, pow2_ne_i, eqCells, eqCell, int_beq, splice, alloc1_loc, box1_loc, bld, aFill] | simp (disch := omega) only [idx_w22, slc1_w, wrap_i64, wrap_u64, tmod_nn, tdiv_nn, idx_w, idx_i, app_w, and_u64n, or_u64n, andNot_u64n]))
              refine aw_region_d r44_3 ?_
              (repeat (first | simp [-invQ_normal, l44_3, hed, i3_0, i4_1, i5_2, i6_3, i7_8, hn, hO, o8, g12, g13, c15, g17, c19, wordC, aBin, aUn, pow2_ne, pow2_ne_i, eqCells, eqCell, int_beq, splice, alloc1_loc, box1_loc, bld, aFill] | simp (disch := omega) only [idx_w22, slc1_w, wrap_i64, wrap_u64, tmod_nn, tdiv_nn, idx_w, idx_i, app_w, and_u64n, or_u64n, andNot_u64n]))
              -- cont 4: t11=T t37=F t41=T t53=F t72=F t84=F
              simp only [invQ_normal]
              rw [hI1]
              refine ⟨_, ?_, x.tail, y.tail, es ++ putW x[0].1 (f x[0].2 y[0].2), G, rfl, ?_⟩
              · (simp only [List.length_tail]; omega)
              · (repeat (first | simp [-invQ_normal, hed, i3_0, i4_1, i5_2, i6_3, i7_8, hn, hO, o8, g12, g13, c15, g17, c19, wordC, aBin, aUn, pow2_ne, pow2_ne_i, eqCells, eqCell, int_beq, splice, alloc1_loc, box1_loc, bld, aFill] | simp (disch := omega) only [idx_w22, slc1_w, wrap_i64, wrap_u64, tmod_nn, tdiv_nn, idx_w, idx_i, app_w, and_u64n, or_u64n, andNot_u64n])) <;> (have e := mergeW_b (f := f) (x := x) (y := y) (by omega) (by omega) (by omega); have := putW_len x[0].1 (f x[0].2 y[0].2); exact ⟨by omega, pe21.1, by rw [← hm2, e], by omega, bits_tail hx, bits_tail hy⟩)
    · simp only [AVal.raw.injEq, Value.bool.injEq, decide_eq_false_iff_not, decide_eq_true_eq, Bool.not_eq_true, Bool.not_eq_false, Bool.not_eq_eq_eq_not, Bool.not_true, Bool.not_false, Bool.and_eq_true, Bool.or_eq_true, Bool.or_eq_false_iff] at g12
      (repeat (first | simp [-invQ_normal, hed, i3_0, i4_1, i5_2, i6_3, i7_8, hn, hO, o8, g12, wordC, aBin, aUn, pow2_ne, pow2_ne_i, eqCells, eqCell, int_beq, splice, alloc1_loc, box1_loc, bld, aFill] | simp (disch := omega) only [idx_w22, slc1_w, wrap_i64, wrap_u64, tmod_nn, tdiv_nn, idx_w, idx_i, app_w, and_u64n, or_u64n, andNot_u64n]))
      refine aw_cond_v ?_
      (repeat (first | simp [-invQ_normal, hed, i3_0, i4_1, i5_2, i6_3, i7_8, hn, hO, o8, g12, wordC, aBin, aUn, pow2_ne, pow2_ne_i, eqCells, eqCell, int_beq, splice, alloc1_loc, box1_loc, bld, aFill] | simp (disch := omega) only [idx_w22, slc1_w, wrap_i64, wrap_u64, tmod_nn, tdiv_nn, idx_w, idx_i, app_w, and_u64n, or_u64n, andNot_u64n]))
      refine condV_split ⟨_, rfl⟩ (fun c22 => ?_) (fun c22 => ?_)
      · simp only [AVal.raw.injEq, Value.bool.injEq, decide_eq_false_iff_not, decide_eq_true_eq, Bool.not_eq_true, Bool.not_eq_false, Bool.not_eq_eq_eq_not, Bool.not_true, Bool.not_false, Bool.and_eq_true, Bool.or_eq_true, Bool.or_eq_false_iff] at c22
        refine aw_skip ?_
        try simp only [seqQ_normal, seqQ_exit, seqQ_ret, blockQ_normal, blockQ_ret, blockQ_exit, invQ_exit, invQ_ret, endQ_eq, if_true, reduceIte, Nat.reduceEqDiff, reduceCtorEq]
        refine aw_block ?_
        refine aw_block ?_
        refine aw_seq (aw_region_d r44_4 ?_)
        (repeat (first | simp [-invQ_normal, l44_4, hed, i3_0, i4_1, i5_2, i6_3, i7_8, hn, hO, o8, g12, c22, wordC, aBin, aUn, pow2_ne, pow2_ne_i, eqCells, eqCell, int_beq, splice, alloc1_loc, box1_loc, bld, aFill] | simp (disch := omega) only [idx_w22, slc1_w, wrap_i64, wrap_u64, tmod_nn, tdiv_nn, idx_w, idx_i, app_w, and_u64n, or_u64n, andNot_u64n]))
        refine wpG_split ⟨_, rfl⟩ (fun g23 => ?_) (fun g23 => ?_)
        · simp only [AVal.raw.injEq, Value.bool.injEq, decide_eq_false_iff_not, decide_eq_true_eq, Bool.not_eq_true, Bool.not_eq_false, Bool.not_eq_eq_eq_not, Bool.not_true, Bool.not_false, Bool.and_eq_true, Bool.or_eq_true, Bool.or_eq_false_iff] at g23
          have hy1 : y.length = 0 := (by rw [g23]; rfl)
          (repeat (first | simp [-invQ_normal, hed, i3_0, i4_1, i5_2, i6_3, i7_8, hn, hO, o8, g12, c22, g23, wordC, aBin, aUn, pow2_ne, pow2_ne_i, eqCells, eqCell, int_beq, splice, alloc1_loc, box1_loc, bld, aFill] | simp (disch := omega) only [idx_w22, slc1_w, wrap_i64, wrap_u64, tmod_nn, tdiv_nn, idx_w, idx_i, app_w, and_u64n, or_u64n, andNot_u64n]))
          refine aw_cond_1 (by (repeat (first | simp [-invQ_normal, hed, i3_0, i4_1, i5_2, i6_3, i7_8, hn, hO, o8, g12, c22, g23, wordC, aBin, aUn, pow2_ne, pow2_ne_i, eqCells, eqCell, int_beq, splice, alloc1_loc, box1_loc, bld, aFill] | simp (disch := omega) only [idx_w22, slc1_w, wrap_i64, wrap_u64, tmod_nn, tdiv_nn, idx_w, idx_i, app_w, and_u64n, or_u64n, andNot_u64n]))) ?_
          refine aw_seq (aw_region_x r44_5 [false,false,false,false,false,false,false,false,false,false,true] (by kernel_rfl) ?_)
          (repeat (first | simp [-invQ_normal, l44_5, hed, i3_0, i4_1, i5_2, i6_3, i7_8, hn, hO, o8, g12, c22, g23, wordC, aBin, aUn, pow2_ne, pow2_ne_i, eqCells, eqCell, int_beq, splice, alloc1_loc, box1_loc, bld, aFill] | simp (disch := omega) only [idx_w22, slc1_w, wrap_i64, wrap_u64, tmod_nn, tdiv_nn, idx_w, idx_i, app_w, and_u64n, or_u64n, andNot_u64n]))
          refine wpC_vals (ev_key _ _ _) (by simp) (by simp [isRow]) (by simp) (by first | simp | assumption) (by simp [plainArg, plain1, AVal.shared, AVal.shared.sharedOne, rawCell]) ⟨by simp, ?_⟩
          (repeat (first | simp [-invQ_normal, hed, i3_0, i4_1, i5_2, i6_3, i7_8, hn, hO, o8, g12, c22, g23, wordC, aBin, aUn, pow2_ne, pow2_ne_i, eqCells, eqCell, int_beq, splice, alloc1_loc, box1_loc, bld, aFill] | simp (disch := omega) only [idx_w22, slc1_w, wrap_i64, wrap_u64, tmod_nn, tdiv_nn, idx_w, idx_i, app_w, and_u64n, or_u64n, andNot_u64n]))
          refine wpC_eff (ev_put x[0] (0, 0) (bits_get hx (by omega)) (by simp) x[0].1 d n1 n2 f hd hed _ (by simp; omega) base s.m.gs (by omega) hO) (by simp) (by simp [isRow]) (by simp) (by simp) (by simp [plainArg, plain1, AVal.shared, AVal.shared.sharedOne, rawCell]) (fun gse24 pe24 => ⟨by simp, ?_⟩)
          (repeat (first | simp [-invQ_normal, hed, i3_0, i4_1, i5_2, i6_3, i7_8, hn, hO, o8, g12, c22, g23, wordC, aBin, aUn, pow2_ne, pow2_ne_i, eqCells, eqCell, int_beq, splice, alloc1_loc, box1_loc, bld, aFill] | simp (disch := omega) only [idx_w22, slc1_w, wrap_i64, wrap_u64, tmod_nn, tdiv_nn, idx_w, idx_i, app_w, and_u64n, or_u64n, andNot_u64n]))
          refine aw_region_q r44_6 ?_
          (repeat (first | simp [-invQ_normal, l44_6, hed, i3_0, i4_1, i5_2, i6_3, i7_8, hn, hO, o8, g12, c22, g23, wordC, aBin, aUn, pow2_ne, pow2_ne_i, eqCells, eqCell, int_beq, splice, alloc1_loc, box1_loc, bld, aFill] | simp (disch := omega) only [idx_w22, slc1_w, wrap_i64, wrap_u64, tmod_nn, tdiv_nn, idx_w, idx_i, app_w, and_u64n, or_u64n, andNot_u64n]))
          -- cont 5: t11=F t15=T t37=T
          simp only [invQ_normal]
          rw [hI1]
          refine ⟨_, ?_, x.tail, y, es ++ putW x[0].1 (f x[0].2 0), G, rfl, ?_⟩
          · (simp only [List.length_tail]; omega)
          · (repeat (first | simp [-invQ_normal, hed, i3_0, i4_1, i5_2, i6_3, i7_8, hn, hO, o8, g12, c22, g23, wordC, aBin, aUn, pow2_ne, pow2_ne_i, eqCells, eqCell, int_beq, splice, alloc1_loc, box1_loc, bld, aFill] | simp (disch := omega) only [idx_w22, slc1_w, wrap_i64, wrap_u64, tmod_nn, tdiv_nn, idx_w, idx_i, app_w, and_u64n, or_u64n, andNot_u64n])) <;> (exfalso; omega)
        · simp only [AVal.raw.injEq, Value.bool.injEq, decide_eq_false_iff_not, decide_eq_true_eq, Bool.not_eq_true, Bool.not_eq_false, Bool.not_eq_eq_eq_not, Bool.not_true, Bool.not_false, Bool.and_eq_true, Bool.or_eq_true, Bool.or_eq_false_iff] at g23
          have hy0 : 0 < y.length := List.length_pos_iff.2 g23
          (repeat (first | simp [-invQ_normal, hed, i3_0, i4_1, i5_2, i6_3, i7_8, hn, hO, o8, g12, c22, g23, wordC, aBin, aUn, pow2_ne, pow2_ne_i, eqCells, eqCell, int_beq, splice, alloc1_loc, box1_loc, bld, aFill] | simp (disch := omega) only [idx_w22, slc1_w, wrap_i64, wrap_u64, tmod_nn, tdiv_nn, idx_w, idx_i, app_w, and_u64n, or_u64n, andNot_u64n]))
          refine aw_cond_0 (by (repeat (first | simp [-invQ_normal, hed, i3_0, i4_1, i5_2, i6_3, i7_8, hn, hO, o8, g12, c22, g23, wordC, aBin, aUn, pow2_ne, pow2_ne_i, eqCells, eqCell, int_beq, splice, alloc1_loc, box1_loc, bld, aFill] | simp (disch := omega) only [idx_w22, slc1_w, wrap_i64, wrap_u64, tmod_nn, tdiv_nn, idx_w, idx_i, app_w, and_u64n, or_u64n, andNot_u64n]))) ?_
          refine aw_seq (aw_region_d r44_7 ?_)
          (repeat (first | simp [-invQ_normal, l44_7, hed, i3_0, i4_1, i5_2, i6_3, i7_8, hn, hO, o8, g12, c22, g23, wordC, aBin, aUn, pow2_ne, pow2_ne_i, eqCells, eqCell, int_beq, splice, alloc1_loc, box1_loc, bld, aFill] | simp (disch := omega) only [idx_w22, slc1_w, wrap_i64, wrap_u64, tmod_nn, tdiv_nn, idx_w, idx_i, app_w, and_u64n, or_u64n, andNot_u64n]))
          refine wpG_split ⟨_, rfl⟩ (fun g25 => ?_) (fun g25 => ?_)
          · simp only [AVal.raw.injEq, Value.bool.injEq, decide_eq_false_iff_not, decide_eq_true_eq, Bool.not_eq_true, Bool.not_eq_false, Bool.not_eq_eq_eq_not, Bool.not_true, Bool.not_false, Bool.and_eq_true, Bool.or_eq_true, Bool.or_eq_false_iff] at g25
            have hx1 : x.length = 0 := (by rw [g25]; rfl)
            (repeat (first | simp [-invQ_normal, hed, i3_0, i4_1, i5_2, i6_3, i7_8, hn, hO, o8, g12, c22, g23, g25, wordC, aBin, aUn, pow2_ne, pow2_ne_i, eqCells, eqCell, int_beq, splice, alloc1_loc, box1_loc, bld, aFill] | simp (disch := omega) only [idx_w22, slc1_w, wrap_i64, wrap_u64, tmod_nn, tdiv_nn, idx_w, idx_i, app_w, and_u64n, or_u64n, andNot_u64n]))
            refine aw_cond_1 (by (repeat (first | simp [-invQ_normal, hed, i3_0, i4_1, i5_2, i6_3, i7_8, hn, hO, o8, g12, c22, g23, g25, wordC, aBin, aUn, pow2_ne, pow2_ne_i, eqCells, eqCell, int_beq, splice, alloc1_loc, box1_loc, bld, aFill] | simp (disch := omega) only [idx_w22, slc1_w, wrap_i64, wrap_u64, tmod_nn, tdiv_nn, idx_w, idx_i, app_w, and_u64n, or_u64n, andNot_u64n]))) ?_
            refine aw_seq (aw_region_x r44_8 [false,false,false,false,false,false,false,false,false,false,true] (by kernel_rfl) ?_)
            (repeat (first | simp [-invQ_normal, l44_8, hed, i3_0, i4_1, i5_2, i6_3, i7_8, hn, hO, o8, g12, c22, g23, g25, wordC, aBin, aUn, pow2_ne, pow2_ne_i, eqCells, eqCell, int_beq, splice, alloc1_loc, box1_loc, bld, aFill] | simp (disch := omega) only [idx_w22, slc1_w, wrap_i64, wrap_u64, tmod_nn, tdiv_nn, idx_w, idx_i, app_w, and_u64n, or_u64n, andNot_u64n]))
            refine wpC_vals (ev_key _ _ _) (by simp) (by simp [isRow]) (by simp) (by first | simp | assumption) (by simp [plainArg, plain1, AVal.shared, AVal.shared.sharedOne, rawCell]) ⟨by simp, ?_⟩
            (repeat (first | simp [-invQ_normal, hed, i3_0, i4_1, i5_2, i6_3, i7_8, hn, hO, o8, g12, c22, g23, g25, wordC, aBin, aUn, pow2_ne, pow2_ne_i, eqCells, eqCell, int_beq, splice, alloc1_loc, box1_loc, bld, aFill] | simp (disch := omega) only [idx_w22, slc1_w, wrap_i64, wrap_u64, tmod_nn, tdiv_nn, idx_w, idx_i, app_w, and_u64n, or_u64n, andNot_u64n]))
            refine wpC_eff (ev_put (0, 0) y[0] (by simp) (bits_get hy (by omega)) y[0].1 d n1 n2 f hd hed _ (by simp; omega) base s.m.gs (by omega) hO) (by simp) (by simp [isRow]) (by simp) (by simp) (by simp [plainArg, plain1, AVal.shared, AVal.shared.sharedOne, rawCell]) (fun gse26 pe26 => ⟨by simp, ?_⟩)
            (repeat (first | simp [-invQ_normal, hed, i3_0, i4_1, i5_2, i6_3, i7_8, hn, hO, o8, g12, c22, g23, g25, wordC, aBin, aUn, pow2_ne, pow2_ne_i, eqCells, eqCell, int_beq, splice, alloc1_loc, box1_loc, bld, aFill] | simp (disch := omega) only [idx_w22, slc1_w, wrap_i64, wrap_u64, tmod_nn, tdiv_nn, idx_w, idx_i, app_w, and_u64n, or_u64n, andNot_u64n]))
            refine aw_region_q r44_9 ?_
            (repeat (first | simp [-invQ_normal, l44_9, hed, i3_0, i4_1, i5_2, i6_3, i7_8, hn, hO, o8, g12, c22, g23, g25, wordC, aBin, aUn, pow2_ne, pow2_ne_i, eqCells, eqCell, int_beq, splice, alloc1_loc, box1_loc, bld, aFill] | simp (disch := omega) only [idx_w22, slc1_w, wrap_i64, wrap_u64, tmod_nn, tdiv_nn, idx_w, idx_i, app_w, and_u64n, or_u64n, andNot_u64n]))
            -- cont 6: t11=F t15=T t37=F t41=F t72=T
            simp only [invQ_normal]
            rw [hI1]
            refine ⟨_, ?_, x, y.tail, es ++ putW y[0].1 (f 0 y[0].2), G, rfl, ?_⟩
            · (simp only [List.length_tail]; omega)
            · (repeat (first | simp [-invQ_normal, hed, i3_0, i4_1, i5_2, i6_3, i7_8, hn, hO, o8, g12, c22, g23, g25, wordC, aBin, aUn, pow2_ne, pow2_ne_i, eqCells, eqCell, int_beq, splice, alloc1_loc, box1_loc, bld, aFill] | simp (disch := omega) only [idx_w22, slc1_w, wrap_i64, wrap_u64, tmod_nn, tdiv_nn, idx_w, idx_i, app_w, and_u64n, or_u64n, andNot_u64n])) <;> (obtain rfl : x = [] := List.eq_nil_of_length_eq_zero (by omega); simp only [List.length_nil] at *; have e := mergeW_y (f := f) (x := []) (y := y) (by omega) (.inl rfl); have := putW_len y[0].1 (f 0 y[0].2); exact ⟨by omega, pe26.1, by rw [← hm2, e], by omega, hx, bits_tail hy⟩)
          · simp only [AVal.raw.injEq, Value.bool.injEq, decide_eq_false_iff_not, decide_eq_true_eq, Bool.not_eq_true, Bool.not_eq_false, Bool.not_eq_eq_eq_not, Bool.not_true, Bool.not_false, Bool.and_eq_true, Bool.or_eq_true, Bool.or_eq_false_iff] at g25
            have hx0 : 0 < x.length := List.length_pos_iff.2 g25
            (repeat (first | simp [-invQ_normal, hed, i3_0, i4_1, i5_2, i6_3, i7_8, hn, hO, o8, g12, c22, g23, g25, wordC, aBin, aUn, pow2_ne, pow2_ne_i, eqCells, eqCell, int_beq, splice, alloc1_loc, box1_loc, bld, aFill] | simp (disch := omega) only [idx_w22, slc1_w, wrap_i64, wrap_u64, tmod_nn, tdiv_nn, idx_w, idx_i, app_w, and_u64n, or_u64n, andNot_u64n]))
            refine wpC_vals (ev_key _ _ _) (by simp) (by simp [isRow]) (by simp) (by first | simp | assumption) (by simp [plainArg, plain1, AVal.shared, AVal.shared.sharedOne, rawCell]) ⟨by simp, ?_⟩
            (repeat (first | simp [-invQ_normal, hed, i3_0, i4_1, i5_2, i6_3, i7_8, hn, hO, o8, g12, c22, g23, g25, wordC, aBin, aUn, pow2_ne, pow2_ne_i, eqCells, eqCell, int_beq, splice, alloc1_loc, box1_loc, bld, aFill] | simp (disch := omega) only [idx_w22, slc1_w, wrap_i64, wrap_u64, tmod_nn, tdiv_nn, idx_w, idx_i, app_w, and_u64n, or_u64n, andNot_u64n]))
            refine wpC_vals (ev_key _ _ _) (by simp) (by simp [isRow]) (by simp) (by first | simp | assumption) (by simp [plainArg, plain1, AVal.shared, AVal.shared.sharedOne, rawCell]) ⟨by simp, ?_⟩
            (repeat (first | simp [-invQ_normal, hed, i3_0, i4_1, i5_2, i6_3, i7_8, hn, hO, o8, g12, c22, g23, g25, wordC, aBin, aUn, pow2_ne, pow2_ne_i, eqCells, eqCell, int_beq, splice, alloc1_loc, box1_loc, bld, aFill] | simp (disch := omega) only [idx_w22, slc1_w, wrap_i64, wrap_u64, tmod_nn, tdiv_nn, idx_w, idx_i, app_w, and_u64n, or_u64n, andNot_u64n]))
            refine aw_cond_v ?_
            (repeat (first | simp [-invQ_normal, hed, i3_0, i4_1, i5_2, i6_3, i7_8, hn, hO, o8, g12, c22, g23, g25, wordC, aBin, aUn, pow2_ne, pow2_ne_i, eqCells, eqCell, int_beq, splice, alloc1_loc, box1_loc, bld, aFill] | simp (disch := omega) only [idx_w22, slc1_w, wrap_i64, wrap_u64, tmod_nn, tdiv_nn, idx_w, idx_i, app_w, and_u64n, or_u64n, andNot_u64n]))
            refine condV_split ⟨_, rfl⟩ (fun c27 => ?_) (fun c27 => ?_)
            · simp only [AVal.raw.injEq, Value.bool.injEq, decide_eq_false_iff_not, decide_eq_true_eq, Bool.not_eq_true, Bool.not_eq_false, Bool.not_eq_eq_eq_not, Bool.not_true, Bool.not_false, Bool.and_eq_true, Bool.or_eq_true, Bool.or_eq_false_iff] at c27
              refine aw_seq (aw_region_x r44_8 [false,false,false,false,false,false,false,false,false,false,true] (by kernel_rfl) ?_)
              (repeat (first | simp [-invQ_normal, l44_8, hed, i3_0, i4_1, i5_2, i6_3, i7_8, hn, hO, o8, g12, c22, g23, g25, c27, wordC, aBin, aUn, pow2_ne, pow2_ne_i, eqCells, eqCell, int_beq, splice, alloc1_loc, box1_loc, bld, aFill] | simp (disch := omega) only [idx_w22, slc1_w, wrap_i64, wrap_u64, tmod_nn, tdiv_nn, idx_w, idx_i, app_w, and_u64n, or_u64n, andNot_u64n]))
              refine wpC_vals (ev_key _ _ _) (by simp) (by simp [isRow]) (by simp) (by first | simp | assumption) (by simp [plainArg, plain1, AVal.shared, AVal.shared.sharedOne, rawCell]) ⟨by simp, ?_⟩
              (repeat (first | simp [-invQ_normal, hed, i3_0, i4_1, i5_2, i6_3, i7_8, hn, hO, o8, g12, c22, g23, g25, c27, wordC, aBin, aUn, pow2_ne, pow2_ne_i, eqCells, eqCell, int_beq, splice, alloc1_loc, box1_loc, bld, aFill] | simp (disch := omega) only [idx_w22, slc1_w, wrap_i64, wrap_u64, tmod_nn, tdiv_nn, idx_w, idx_i, app_w, and_u64n, or_u64n, andNot_u64n]))
              refine wpC_eff (ev_put (0, 0) y[0] (by simp) (bits_get hy (by omega)) y[0].1 d n1 n2 f hd hed _ (by simp; omega) base s.m.gs (by omega) hO) (by simp) (by simp [isRow]) (by simp) (by simp) (by simp [plainArg, plain1, AVal.shared, AVal.shared.sharedOne, rawCell]) (fun gse28 pe28 => ⟨by simp, ?_⟩)
              (repeat (first | simp [-invQ_normal, hed, i3_0, i4_1, i5_2, i6_3, i7_8, hn, hO, o8, g12, c22, g23, g25, c27, wordC, aBin, aUn, pow2_ne, pow2_ne_i, eqCells, eqCell, int_beq, splice, alloc1_loc, box1_loc, bld, aFill] | simp (disch := omega) only [idx_w22, slc1_w, wrap_i64, wrap_u64, tmod_nn, tdiv_nn, idx_w, idx_i, app_w, and_u64n, or_u64n, andNot_u64n]))
              refine aw_region_q r44_9 ?_
              (repeat (first | simp [-invQ_normal, l44_9, hed, i3_0, i4_1, i5_2, i6_3, i7_8, hn, hO, o8, g12, c22, g23, g25, c27, wordC, aBin, aUn, pow2_ne, pow2_ne_i, eqCells, eqCell, int_beq, splice, alloc1_loc, box1_loc, bld, aFill] | simp (disch := omega) only [idx_w22, slc1_w, wrap_i64, wrap_u64, tmod_nn, tdiv_nn, idx_w, idx_i, app_w, and_u64n, or_u64n, andNot_u64n]))
              -- cont 7: t11=F t15=T t37=F t41=F t72=F t84=T
              simp only [invQ_normal]
              rw [hI1]
              refine ⟨_, ?_, x, y.tail, es ++ putW y[0].1 (f 0 y[0].2), G, rfl, ?_⟩
              · (simp only [List.length_tail]; omega)
              · (repeat (first | simp [-invQ_normal, hed, i3_0, i4_1, i5_2, i6_3, i7_8, hn, hO, o8, g12, c22, g23, g25, c27, wordC, aBin, aUn, pow2_ne, pow2_ne_i, eqCells, eqCell, int_beq, splice, alloc1_loc, box1_loc, bld, aFill] | simp (disch := omega) only [idx_w22, slc1_w, wrap_i64, wrap_u64, tmod_nn, tdiv_nn, idx_w, idx_i, app_w, and_u64n, or_u64n, andNot_u64n])) <;> (exfalso; omega)
            · simp only [AVal.raw.injEq, Value.bool.injEq, decide_eq_false_iff_not, decide_eq_true_eq, Bool.not_eq_true, Bool.not_eq_false, Bool.not_eq_eq_eq_not, Bool.not_true, Bool.not_false, Bool.and_eq_true, Bool.or_eq_true, Bool.or_eq_false_iff] at c27
              refine aw_seq (aw_region_x r44_2 [false,false,false,false,false,false,false,false,false,false,false,false,true] (by kernel_rfl) ?_)
              (repeat (first | simp [-invQ_normal, l44_2, hed, i3_0, i4_1, i5_2, i6_3, i7_8, hn, hO, o8, g12, c22, g23, g25, c27, wordC, aBin, aUn, pow2_ne, pow2_ne_i, eqCells, eqCell, int_beq, splice, alloc1_loc, box1_loc, bld, aFill] | simp (disch := omega) only [idx_w22, slc1_w, wrap_i64, wrap_u64, tmod_nn, tdiv_nn, idx_w, idx_i, app_w, and_u64n, or_u64n, andNot_u64n]))
              refine wpC_vals (ev_key _ _ _) (by simp) (by simp [isRow]) (by simp) (by first | simp | assumption) (by simp [plainArg, plain1, AVal.shared, AVal.shared.sharedOne, rawCell]) ⟨by simp, ?_⟩
              (repeat (first | simp [-invQ_normal, hed, i3_0, i4_1, i5_2, i6_3, i7_8, hn, hO, o8, g12, c22, g23, g25, c27, wordC, aBin, aUn, pow2_ne, pow2_ne_i, eqCells, eqCell, int_beq, splice, alloc1_loc, box1_loc, bld, aFill] | simp (disch := omega) only [idx_w22, slc1_w, wrap_i64, wrap_u64, tmod_nn, tdiv_nn, idx_w, idx_i, app_w, and_u64n, or_u64n, andNot_u64n]))
              refine wpC_eff (ev_put x[0] y[0] (bits_get hx (by omega)) (bits_get hy (by omega)) x[0].1 d n1 n2 f hd hed _ (by simp; omega) base s.m.gs (by omega) hO) (by simp) (by simp [isRow]) (by simp) (by simp) (by simp [plainArg, plain1, AVal.shared, AVal.shared.sharedOne, rawCell]) (fun gse29 pe29 => ⟨by simp, ?_⟩)
              (repeat (first | simp [-invQ_normal, hed, i3_0, i4_1, i5_2, i6_3, i7_8, hn, hO, o8, g12, c22, g23, g25, c27, wordC, aBin, aUn, pow2_ne, pow2_ne_i, eqCells, eqCell, int_beq, splice, alloc1_loc, box1_loc, bld, aFill] | simp (disch := omega) only [idx_w22, slc1_w, wrap_i64, wrap_u64, tmod_nn, tdiv_nn, idx_w, idx_i, app_w, and_u64n, or_u64n, andNot_u64n]))
              refine aw_region_d r44_3 ?_
              (repeat (first | simp [-invQ_normal, l44_3, hed, i3_0, i4_1, i5_2, i6_3, i7_8, hn, hO, o8, g12, c22, g23, g25, c27, wordC, aBin, aUn, pow2_ne, pow2_ne_i, eqCells, eqCell, int_beq, splice, alloc1_loc, box1_loc, bld, aFill] | simp (disch := omega) only [idx_w22, slc1_w, wrap_i64, wrap_u64, tmod_nn, tdiv_nn, idx_w, idx_i, app_w, and_u64n, or_u64n, andNot_u64n]))
              -- cont 8: t11=F t15=T t37=F t41=F t72=F t84=F
              simp only [invQ_normal]
              rw [hI1]
              refine ⟨_, ?_, x.tail, y.tail, es ++ putW x[0].1 (f x[0].2 y[0].2), G, rfl, ?_⟩
              · (simp only [List.length_tail]; omega)
              · (repeat (first | simp [-invQ_normal, hed, i3_0, i4_1, i5_2, i6_3, i7_8, hn, hO, o8, g12, c22, g23, g25, c27, wordC, aBin, aUn, pow2_ne, pow2_ne_i, eqCells, eqCell, int_beq, splice, alloc1_loc, box1_loc, bld, aFill] | simp (disch := omega) only [idx_w22, slc1_w, wrap_i64, wrap_u64, tmod_nn, tdiv_nn, idx_w, idx_i, app_w, and_u64n, or_u64n, andNot_u64n])) <;> (exfalso; omega)
      · simp only [AVal.raw.injEq, Value.bool.injEq, decide_eq_false_iff_not, decide_eq_true_eq, Bool.not_eq_true, Bool.not_eq_false, Bool.not_eq_eq_eq_not, Bool.not_true, Bool.not_false, Bool.and_eq_true, Bool.or_eq_true, Bool.or_eq_false_iff] at c22
        refine aw_exit ?_
        try simp only [seqQ_normal, seqQ_exit, seqQ_ret, blockQ_normal, blockQ_ret, blockQ_exit, invQ_exit, invQ_ret, endQ_eq, if_true, reduceIte, Nat.reduceEqDiff, reduceCtorEq]
        -- end of function
        refine (retP_vals [] (.inl rfl) ?_ (by simp [givenOk, givenAs, AVal.fixed, rawCell]) (by rw [← hr0]; rfl) ?_)
        · (repeat (first | simp [-invQ_normal, resultOf, hed, i3_0, i4_1, i5_2, i6_3, i7_8, hn, hO, o8, g12, c22, wordC, aBin, aUn, pow2_ne, pow2_ne_i, eqCells, eqCell, int_beq, splice, alloc1_loc, box1_loc, bld, aFill] | simp (disch := omega) only [idx_w22, slc1_w, wrap_i64, wrap_u64, tmod_nn, tdiv_nn, idx_w, idx_i, app_w, and_u64n, or_u64n, andNot_u64n]))
        · (repeat (first | simp [-invQ_normal, hed, i3_0, i4_1, i5_2, i6_3, i7_8, hn, hO, o8, g12, c22, wordC, aBin, aUn, pow2_ne, pow2_ne_i, eqCells, eqCell, int_beq, splice, alloc1_loc, box1_loc, bld, aFill] | simp (disch := omega) only [idx_w22, slc1_w, wrap_i64, wrap_u64, tmod_nn, tdiv_nn, idx_w, idx_i, app_w, and_u64n, or_u64n, andNot_u64n])) <;> ((obtain rfl : x = [] := List.eq_nil_of_length_eq_zero (by omega); obtain rfl : y = [] := List.eq_nil_of_length_eq_zero (by omega); rw [← hm2]; simpa [mergeW] using hO))
set_option maxHeartbeats 800000 in
theorem ev_both (a b : List (Int × Int)) (la : a.length ≤ 20000) (lb : b.length ≤ 20000) (ha : bits64 a) (hbb : bits64 b) (d : Nat) (f : Int → Int → Int) (hd : Joins d f) (hed : E.eff d = false) (base : Nat) (gs : GS) (hb : base ≤ gs.n) : ∃ gs', Evals E 35 [.sl (a.map wordC), .sl (b.map wordC), .clo d [] []] base gs ([rowRV 2 (if goodI (-1) a && goodI (-1) b then (mergeW f a b).map wordC else []), .v (.raw (.int .i64 (if goodI (-1) a && goodI (-1) b then 0 else 8)))], gs') ∧ (fun _ => True) gs' := by
  refine evals_walk_ex (fun _ => True) 22 #[.cell 6 23, .tmp 7] rfl (by kernel_rfl) b35_eq (by kernel_rfl) (by kernel_rfl) (by simp) fun s hs hm => ?_
  have a0 : s.get 0 = .sl (a.map wordC) := by simpa using hs 0
  have a1 : s.get 1 = .sl (b.map wordC) := by simpa using hs 1
  have a2 : s.get 2 = .clo d [] [] := by simpa using hs 2
  have hg : s.m.gs = gs := by rw [hm]
  clear hs
  generalize hr0 : ([rowRV 2 (if goodI (-1) a && goodI (-1) b then (mergeW f a b).map wordC else []), .v (.raw (.int .i64 (if goodI (-1) a && goodI (-1) b then 0 else 8)))] : List RV) = r0
  unfold b35
  refine aw_seq (aw_region_q r35_0 ?_)
  (repeat (first | simp [-invQ_normal, l35_0, a0, a1, a2, hg, hed, box1_glob, alloc1_glob, wordC, aBin, aUn, pow2_ne, pow2_ne_i, eqCells, eqCell, int_beq, splice, alloc1_loc, box1_loc, bld, aFill] | simp (disch := omega) only [wobj_boxG, wrap_i64, wrap_u64, tmod_nn, tdiv_nn, idx_w, idx_i, app_w, and_u64n, or_u64n, andNot_u64n]))
  refine aw_seq ?_
  refine aw_seq (aw_region_q r35_1 ?_)
  (repeat (first | simp [-invQ_normal, l35_1, a0, a1, a2, hg, hed, box1_glob, alloc1_glob, wordC, aBin, aUn, pow2_ne, pow2_ne_i, eqCells, eqCell, int_beq, splice, alloc1_loc, box1_loc, bld, aFill] | simp (disch := omega) only [wobj_boxG, wrap_i64, wrap_u64, tmod_nn, tdiv_nn, idx_w, idx_i, app_w, and_u64n, or_u64n, andNot_u64n]))
  refine wpC_vals (ev15 (x := extL) rfl a (by omega) _ _) (by simp) (by simp [isRow]) (by simp) (by first | simp | assumption) (by simp [plainArg, plain1, AVal.shared, AVal.shared.sharedOne, rawCell]) ⟨by simp, ?_⟩
  (repeat (first | simp [-invQ_normal, a0, a1, a2, hg, hed, box1_glob, alloc1_glob, wordC, aBin, aUn, pow2_ne, pow2_ne_i, eqCells, eqCell, int_beq, splice, alloc1_loc, box1_loc, bld, aFill] | simp (disch := omega) only [wobj_boxG, wrap_i64, wrap_u64, tmod_nn, tdiv_nn, idx_w, idx_i, app_w, and_u64n, or_u64n, andNot_u64n]))
  refine wpC_vals (ev15 (x := extL) rfl b (by omega) _ _) (by simp) (by simp [isRow]) (by simp) (by first | simp | assumption) (by simp [plainArg, plain1, AVal.shared, AVal.shared.sharedOne, rawCell]) ⟨by simp, ?_⟩
  (repeat (first | simp [-invQ_normal, a0, a1, a2, hg, hed, box1_glob, alloc1_glob, wordC, aBin, aUn, pow2_ne, pow2_ne_i, eqCells, eqCell, int_beq, splice, alloc1_loc, box1_loc, bld, aFill] | simp (disch := omega) only [wobj_boxG, wrap_i64, wrap_u64, tmod_nn, tdiv_nn, idx_w, idx_i, app_w, and_u64n, or_u64n, andNot_u64n]))
  refine aw_seq (aw_region_q r35_2 ?_)
  (repeat (first | simp [-invQ_normal, l35_2, a0, a1, a2, hg, hed, box1_glob, alloc1_glob, wordC, aBin, aUn, pow2_ne, pow2_ne_i, eqCells, eqCell, int_beq, splice, alloc1_loc, box1_loc, bld, aFill] | simp (disch := omega) only [wobj_boxG, wrap_i64, wrap_u64, tmod_nn, tdiv_nn, idx_w, idx_i, app_w, and_u64n, or_u64n, andNot_u64n]))
  refine aw_cond_v ?_
  (repeat (first | simp [-invQ_normal, a0, a1, a2, hg, hed, box1_glob, alloc1_glob, wordC, aBin, aUn, pow2_ne, pow2_ne_i, eqCells, eqCell, int_beq, splice, alloc1_loc, box1_loc, bld, aFill] | simp (disch := omega) only [wobj_boxG, wrap_i64, wrap_u64, tmod_nn, tdiv_nn, idx_w, idx_i, app_w, and_u64n, or_u64n, andNot_u64n]))
  refine condV_split ⟨_, rfl⟩ (fun c2 => ?_) (fun c2 => ?_)
  · simp only [AVal.raw.injEq, Value.bool.injEq, decide_eq_false_iff_not, decide_eq_true_eq, Bool.not_eq_true, Bool.not_eq_false, Bool.not_eq_eq_eq_not, Bool.not_true, Bool.not_false, Bool.and_eq_true, Bool.or_eq_true, Bool.or_eq_false_iff] at c2
    obtain ⟨hbad, hmax⟩ := both_bad c2
    refine aw_seq (aw_region_q r35_3 ?_)
    (repeat (first | simp [-invQ_normal, l35_3, a0, a1, a2, hg, hed, c2, hmax, box1_glob, alloc1_glob, wordC, aBin, aUn, pow2_ne, pow2_ne_i, eqCells, eqCell, int_beq, splice, alloc1_loc, box1_loc, bld, aFill] | simp (disch := omega) only [wobj_boxG, wrap_i64, wrap_u64, tmod_nn, tdiv_nn, idx_w, idx_i, app_w, and_u64n, or_u64n, andNot_u64n]))
    refine aw_ret (retP_vals [.e0, .raw (.int .i64 8)] (.inr rfl) ?_ (by simp [givenOk, givenAs, AVal.fixed, rawCell]) (hr0.symm.trans ?_) ?_)
    · (repeat (first | simp [-invQ_normal, resultOf, a0, a1, a2, hg, hed, c2, hmax, box1_glob, alloc1_glob, wordC, aBin, aUn, pow2_ne, pow2_ne_i, eqCells, eqCell, int_beq, splice, alloc1_loc, box1_loc, bld, aFill] | simp (disch := omega) only [wobj_boxG, wrap_i64, wrap_u64, tmod_nn, tdiv_nn, idx_w, idx_i, app_w, and_u64n, or_u64n, andNot_u64n]))
    · rw [hbad]; rfl
    · trivial
  · simp only [AVal.raw.injEq, Value.bool.injEq, decide_eq_false_iff_not, decide_eq_true_eq, Bool.not_eq_true, Bool.not_eq_false, Bool.not_eq_eq_eq_not, Bool.not_true, Bool.not_false, Bool.and_eq_true, Bool.or_eq_true, Bool.or_eq_false_iff] at c2
    have hgood := both_good c2
    obtain ⟨hg1, hg2⟩ : goodI (-1) a = true ∧ goodI (-1) b = true := (by simpa using hgood)
    refine aw_skip ?_
    try simp only [seqQ_normal, seqQ_exit, seqQ_ret, blockQ_normal, blockQ_ret, blockQ_exit, invQ_exit, invQ_ret, endQ_eq, if_true, reduceIte, Nat.reduceEqDiff, reduceCtorEq]
    refine aw_seq (aw_region_q r35_4 ?_)
    (repeat (first | simp [-invQ_normal, l35_4, a0, a1, a2, hg, hed, c2, hg1, hg2, box1_glob, alloc1_glob, wordC, aBin, aUn, pow2_ne, pow2_ne_i, eqCells, eqCell, int_beq, splice, alloc1_loc, box1_loc, bld, aFill] | simp (disch := omega) only [wobj_boxG, wrap_i64, wrap_u64, tmod_nn, tdiv_nn, idx_w, idx_i, app_w, and_u64n, or_u64n, andNot_u64n]))
    refine wpC_eff (ev_merge a b la lb ha hbb d gs.n (gs.n + 1) f hd hed base _ (by simp [hg]; omega) (gout_start _ 2 hg hb)) (by simp) (by simp [isRow]) (by simp) (by simp) (by simp [plainArg, plain1, AVal.shared, AVal.shared.sharedOne, rawCell]) (fun gse3 pe3 => ⟨by simp, ?_⟩)
    (repeat (first | simp [-invQ_normal, a0, a1, a2, hg, hed, c2, hg1, hg2, box1_glob, alloc1_glob, wordC, aBin, aUn, pow2_ne, pow2_ne_i, eqCells, eqCell, int_beq, splice, alloc1_loc, box1_loc, bld, aFill] | simp (disch := omega) only [wobj_boxG, wrap_i64, wrap_u64, tmod_nn, tdiv_nn, idx_w, idx_i, app_w, and_u64n, or_u64n, andNot_u64n]))
    refine aw_seq (aw_region_q r35_5 ?_)
    obtain ⟨va, o2, ov, vs, vc⟩ := pe3.1.val
    have co := shared_cells vs
    (repeat (first | simp [-invQ_normal, l35_5, a0, a1, a2, hg, hed, c2, hg1, hg2, o2, vs, vc, co, box1_glob, alloc1_glob, wordC, aBin, aUn, pow2_ne, pow2_ne_i, eqCells, eqCell, int_beq, splice, alloc1_loc, box1_loc, bld, aFill] | simp (disch := omega) only [wobj_boxG, wrap_i64, wrap_u64, tmod_nn, tdiv_nn, idx_w, idx_i, app_w, and_u64n, or_u64n, andNot_u64n]))
    refine aw_ret (retP_out (es := (mergeW f a b).map wordC) (sz := 2) (a := va) [.raw (.int .i64 (if goodI (-1) a && goodI (-1) b then 0 else 8))] (.inr rfl) ?_ (by simp [givenOk, givenAs, AVal.fixed, rawCell]) (by simp) ?_ (hr0.symm.trans ?_))
    · (repeat (first | simp [-invQ_normal, resultOf, a0, a1, a2, hg, hed, c2, hg1, hg2, o2, vs, vc, co, box1_glob, alloc1_glob, wordC, aBin, aUn, pow2_ne, pow2_ne_i, eqCells, eqCell, int_beq, splice, alloc1_loc, box1_loc, bld, aFill] | simp (disch := omega) only [wobj_boxG, wrap_i64, wrap_u64, tmod_nn, tdiv_nn, idx_w, idx_i, app_w, and_u64n, or_u64n, andNot_u64n]))
    · simpa using outV_put (m := (newGlob (newGlob s.m (.box [.clo d [] []])) (.box [.e0])).withGs _) (by simp) pe3.1 o2
    · rw [hgood]; rfl

theorem joins_Or : Joins 36 orF := by
  intro x y hx hx2 hy hy2
  obtain ⟨x, rfl⟩ : ∃ n : Nat, x = n := ⟨x.toNat, by omega⟩
  obtain ⟨y, rfl⟩ : ∃ n : Nat, y = n := ⟨y.toNat, by omega⟩
  refine ⟨?_, fun base gs => ?_⟩
  · unfold orF
    simp only [Int.toNat_natCast]
    have : x ||| y < 2 ^ 64 := Nat.or_lt_two_pow (by omega) (by omega)
    omega
  · unfold orF
    simp only [Int.toNat_natCast]
    exact ev_or x y (by omega) (by omega) base gs

theorem joins_And : Joins 37 andF := by
  intro x y hx hx2 hy hy2
  obtain ⟨x, rfl⟩ : ∃ n : Nat, x = n := ⟨x.toNat, by omega⟩
  obtain ⟨y, rfl⟩ : ∃ n : Nat, y = n := ⟨y.toNat, by omega⟩
  refine ⟨?_, fun base gs => ?_⟩
  · unfold andF
    simp only [Int.toNat_natCast]
    have : x &&& y < 2 ^ 64 := Nat.and_lt_two_pow _ (by omega)
    omega
  · unfold andF
    simp only [Int.toNat_natCast]
    exact ev_and x y (by omega) (by omega) base gs

theorem joins_Minus : Joins 38 notF := by
  intro x y hx hx2 hy hy2
  obtain ⟨x, rfl⟩ : ∃ n : Nat, x = n := ⟨x.toNat, by omega⟩
  obtain ⟨y, rfl⟩ : ∃ n : Nat, y = n := ⟨y.toNat, by omega⟩
  refine ⟨?_, fun base gs => ?_⟩
  · unfold notF
    simp only [Int.toNat_natCast]
    have : x ^^^ (x &&& y) < 2 ^ 64 := Nat.xor_lt_two_pow (by omega) (Nat.and_lt_two_pow _ (by omega))
    omega
  · unfold notF
    simp only [Int.toNat_natCast]
    exact ev_minus x y (by omega) (by omega) base gs

set_option maxHeartbeats 800000 in
theorem ev_Or (a b : List (Int × Int)) (la : a.length ≤ 20000) (lb : b.length ≤ 20000) (ha : bits64 a) (hbb : bits64 b) (base : Nat) (gs : GS)  : Evals E 20 [.sl (a.map wordC), .sl (b.map wordC)] base gs ([rowRV 2 (if goodI (-1) a && goodI (-1) b then (mergeW orF a b).map wordC else []), .v (.raw (.int .i64 (if goodI (-1) a && goodI (-1) b then 0 else 8)))], gs) := by
  refine evals_walk 11 #[.tmp 4, .tmp 5] rfl (by kernel_rfl) b20_eq (by kernel_rfl) (by kernel_rfl) (by simp) fun s hs hm => ?_
  have a0 : s.get 0 = .sl (a.map wordC) := by simpa using hs 0
  have a1 : s.get 1 = .sl (b.map wordC) := by simpa using hs 1
  have hg : s.m.gs = gs := by rw [hm]
  clear hs
  generalize hr0 : (([rowRV 2 (if goodI (-1) a && goodI (-1) b then (mergeW orF a b).map wordC else []), .v (.raw (.int .i64 (if goodI (-1) a && goodI (-1) b then 0 else 8)))], gs) : List RV × GS) = r0
  unfold b20
  refine aw_seq (aw_region_q r20_0 ?_)
  (repeat (first | simp [-invQ_normal, l20_0, a0, a1, hg, wordC, aBin, aUn, pow2_ne, pow2_ne_i, eqCells, eqCell, int_beq, splice, alloc1_loc, box1_loc, bld, aFill] | simp (disch := omega) only [wrap_i64, wrap_u64, tmod_nn, tdiv_nn, idx_w, idx_i, app_w, and_u64n, or_u64n, andNot_u64n]))
  refine aw_seq (aw_region_q r20_1 ?_)
  (repeat (first | simp [-invQ_normal, l20_1, a0, a1, hg, wordC, aBin, aUn, pow2_ne, pow2_ne_i, eqCells, eqCell, int_beq, splice, alloc1_loc, box1_loc, bld, aFill] | simp (disch := omega) only [wrap_i64, wrap_u64, tmod_nn, tdiv_nn, idx_w, idx_i, app_w, and_u64n, or_u64n, andNot_u64n]))
  refine wpC_row (vals := [.raw (.int .i64 (if goodI (-1) a && goodI (-1) b then 0 else 8))]) (ev_both a b la lb ha hbb 36 orF joins_Or (by simp) _ _ (Nat.le_refl _)).choose_spec.1 (by simp) (by simp) (by simp) (by simp) (by simp) (by simp [plainArg, plain1, AVal.shared, AVal.shared.sharedOne, rawCell]) (fun xb3 mb3 rb3 gb3 fb3 => ⟨by simp, ?_⟩)
  (repeat (first | simp [-invQ_normal, a0, a1, hg, gb3, wordC, aBin, aUn, pow2_ne, pow2_ne_i, eqCells, eqCell, int_beq, splice, alloc1_loc, box1_loc, bld, aFill] | simp (disch := omega) only [wrap_i64, wrap_u64, tmod_nn, tdiv_nn, idx_w, idx_i, app_w, and_u64n, or_u64n, andNot_u64n]))
  refine aw_ret (retQ_rowV (gs := gs) (sz := 2) (a := xb3) [.raw (.int .i64 (if goodI (-1) a && goodI (-1) b then 0 else 8))] (.inr rfl) (by (repeat (first | simp [-invQ_normal, resultOf, a0, a1, hg, gb3, wordC, aBin, aUn, pow2_ne, pow2_ne_i, eqCells, eqCell, int_beq, splice, alloc1_loc, box1_loc, bld, aFill] | simp (disch := omega) only [wrap_i64, wrap_u64, tmod_nn, tdiv_nn, idx_w, idx_i, app_w, and_u64n, or_u64n, andNot_u64n]))) rb3 (by simp) (by simp [givenOk, givenAs, AVal.fixed, rawCell]) (by (repeat (first | simp [-invQ_normal, a0, a1, hg, gb3, wordC, aBin, aUn, pow2_ne, pow2_ne_i, eqCells, eqCell, int_beq, splice, alloc1_loc, box1_loc, bld, aFill] | simp (disch := omega) only [wrap_i64, wrap_u64, tmod_nn, tdiv_nn, idx_w, idx_i, app_w, and_u64n, or_u64n, andNot_u64n]))) (by simp) (hr0.symm.trans ?_))
  rfl
set_option maxHeartbeats 800000 in
theorem ev_And (a b : List (Int × Int)) (la : a.length ≤ 20000) (lb : b.length ≤ 20000) (ha : bits64 a) (hbb : bits64 b) (base : Nat) (gs : GS)  : Evals E 21 [.sl (a.map wordC), .sl (b.map wordC)] base gs ([rowRV 2 (if goodI (-1) a && goodI (-1) b then (mergeW andF a b).map wordC else []), .v (.raw (.int .i64 (if goodI (-1) a && goodI (-1) b then 0 else 8)))], gs) := by
  refine evals_walk 11 #[.tmp 4, .tmp 5] rfl (by kernel_rfl) b21_eq (by kernel_rfl) (by kernel_rfl) (by simp) fun s hs hm => ?_
  have a0 : s.get 0 = .sl (a.map wordC) := by simpa using hs 0
  have a1 : s.get 1 = .sl (b.map wordC) := by simpa using hs 1
  have hg : s.m.gs = gs := by rw [hm]
  clear hs
  generalize hr0 : (([rowRV 2 (if goodI (-1) a && goodI (-1) b then (mergeW andF a b).map wordC else []), .v (.raw (.int .i64 (if goodI (-1) a && goodI (-1) b then 0 else 8)))], gs) : List RV × GS) = r0
  unfold b21
  refine aw_seq (aw_region_q r21_0 ?_)
  (repeat (first | simp [-invQ_normal, l21_0, a0, a1, hg, wordC, aBin, aUn, pow2_ne, pow2_ne_i, eqCells, eqCell, int_beq, splice, alloc1_loc, box1_loc, bld, aFill] | simp (disch := omega) only [wrap_i64, wrap_u64, tmod_nn, tdiv_nn, idx_w, idx_i, app_w, and_u64n, or_u64n, andNot_u64n]))
  refine aw_seq (aw_region_q r21_1 ?_)
  (repeat (first | simp [-invQ_normal, l21_1, a0, a1, hg, wordC, aBin, aUn, pow2_ne, pow2_ne_i, eqCells, eqCell, int_beq, splice, alloc1_loc, box1_loc, bld, aFill] | simp (disch := omega) only [wrap_i64, wrap_u64, tmod_nn, tdiv_nn, idx_w, idx_i, app_w, and_u64n, or_u64n, andNot_u64n]))
  refine wpC_row (vals := [.raw (.int .i64 (if goodI (-1) a && goodI (-1) b then 0 else 8))]) (ev_both a b la lb ha hbb 37 andF joins_And (by simp) _ _ (Nat.le_refl _)).choose_spec.1 (by simp) (by simp) (by simp) (by simp) (by simp) (by simp [plainArg, plain1, AVal.shared, AVal.shared.sharedOne, rawCell]) (fun xb3 mb3 rb3 gb3 fb3 => ⟨by simp, ?_⟩)
  (repeat (first | simp [-invQ_normal, a0, a1, hg, gb3, wordC, aBin, aUn, pow2_ne, pow2_ne_i, eqCells, eqCell, int_beq, splice, alloc1_loc, box1_loc, bld, aFill] | simp (disch := omega) only [wrap_i64, wrap_u64, tmod_nn, tdiv_nn, idx_w, idx_i, app_w, and_u64n, or_u64n, andNot_u64n]))
  refine aw_ret (retQ_rowV (gs := gs) (sz := 2) (a := xb3) [.raw (.int .i64 (if goodI (-1) a && goodI (-1) b then 0 else 8))] (.inr rfl) (by (repeat (first | simp [-invQ_normal, resultOf, a0, a1, hg, gb3, wordC, aBin, aUn, pow2_ne, pow2_ne_i, eqCells, eqCell, int_beq, splice, alloc1_loc, box1_loc, bld, aFill] | simp (disch := omega) only [wrap_i64, wrap_u64, tmod_nn, tdiv_nn, idx_w, idx_i, app_w, and_u64n, or_u64n, andNot_u64n]))) rb3 (by simp) (by simp [givenOk, givenAs, AVal.fixed, rawCell]) (by (repeat (first | simp [-invQ_normal, a0, a1, hg, gb3, wordC, aBin, aUn, pow2_ne, pow2_ne_i, eqCells, eqCell, int_beq, splice, alloc1_loc, box1_loc, bld, aFill] | simp (disch := omega) only [wrap_i64, wrap_u64, tmod_nn, tdiv_nn, idx_w, idx_i, app_w, and_u64n, or_u64n, andNot_u64n]))) (by simp) (hr0.symm.trans ?_))
  rfl
set_option maxHeartbeats 800000 in
theorem ev_Minus (a b : List (Int × Int)) (la : a.length ≤ 20000) (lb : b.length ≤ 20000) (ha : bits64 a) (hbb : bits64 b) (base : Nat) (gs : GS)  : Evals E 22 [.sl (a.map wordC), .sl (b.map wordC)] base gs ([rowRV 2 (if goodI (-1) a && goodI (-1) b then (mergeW notF a b).map wordC else []), .v (.raw (.int .i64 (if goodI (-1) a && goodI (-1) b then 0 else 8)))], gs) := by
  refine evals_walk 11 #[.tmp 4, .tmp 5] rfl (by kernel_rfl) b22_eq (by kernel_rfl) (by kernel_rfl) (by simp) fun s hs hm => ?_
  have a0 : s.get 0 = .sl (a.map wordC) := by simpa using hs 0
  have a1 : s.get 1 = .sl (b.map wordC) := by simpa using hs 1
  have hg : s.m.gs = gs := by rw [hm]
  clear hs
  generalize hr0 : (([rowRV 2 (if goodI (-1) a && goodI (-1) b then (mergeW notF a b).map wordC else []), .v (.raw (.int .i64 (if goodI (-1) a && goodI (-1) b then 0 else 8)))], gs) : List RV × GS) = r0
  unfold b22
  refine aw_seq (aw_region_q r22_0 ?_)
  (repeat (first | simp [-invQ_normal, l22_0, a0, a1, hg, wordC, aBin, aUn, pow2_ne, pow2_ne_i, eqCells, eqCell, int_beq, splice, alloc1_loc, box1_loc, bld, aFill] | simp (disch := omega) only [wrap_i64, wrap_u64, tmod_nn, tdiv_nn, idx_w, idx_i, app_w, and_u64n, or_u64n, andNot_u64n]))
  refine aw_seq (aw_region_q r22_1 ?_)
  (repeat (first | simp [-invQ_normal, l22_1, a0, a1, hg, wordC, aBin, aUn, pow2_ne, pow2_ne_i, eqCells, eqCell, int_beq, splice, alloc1_loc, box1_loc, bld, aFill] | simp (disch := omega) only [wrap_i64, wrap_u64, tmod_nn, tdiv_nn, idx_w, idx_i, app_w, and_u64n, or_u64n, andNot_u64n]))
  refine wpC_row (vals := [.raw (.int .i64 (if goodI (-1) a && goodI (-1) b then 0 else 8))]) (ev_both a b la lb ha hbb 38 notF joins_Minus (by simp) _ _ (Nat.le_refl _)).choose_spec.1 (by simp) (by simp) (by simp) (by simp) (by simp) (by simp [plainArg, plain1, AVal.shared, AVal.shared.sharedOne, rawCell]) (fun xb3 mb3 rb3 gb3 fb3 => ⟨by simp, ?_⟩)
  (repeat (first | simp [-invQ_normal, a0, a1, hg, gb3, wordC, aBin, aUn, pow2_ne, pow2_ne_i, eqCells, eqCell, int_beq, splice, alloc1_loc, box1_loc, bld, aFill] | simp (disch := omega) only [wrap_i64, wrap_u64, tmod_nn, tdiv_nn, idx_w, idx_i, app_w, and_u64n, or_u64n, andNot_u64n]))
  refine aw_ret (retQ_rowV (gs := gs) (sz := 2) (a := xb3) [.raw (.int .i64 (if goodI (-1) a && goodI (-1) b then 0 else 8))] (.inr rfl) (by (repeat (first | simp [-invQ_normal, resultOf, a0, a1, hg, gb3, wordC, aBin, aUn, pow2_ne, pow2_ne_i, eqCells, eqCell, int_beq, splice, alloc1_loc, box1_loc, bld, aFill] | simp (disch := omega) only [wrap_i64, wrap_u64, tmod_nn, tdiv_nn, idx_w, idx_i, app_w, and_u64n, or_u64n, andNot_u64n]))) rb3 (by simp) (by simp [givenOk, givenAs, AVal.fixed, rawCell]) (by (repeat (first | simp [-invQ_normal, a0, a1, hg, gb3, wordC, aBin, aUn, pow2_ne, pow2_ne_i, eqCells, eqCell, int_beq, splice, alloc1_loc, box1_loc, bld, aFill] | simp (disch := omega) only [wrap_i64, wrap_u64, tmod_nn, tdiv_nn, idx_w, idx_i, app_w, and_u64n, or_u64n, andNot_u64n]))) (by simp) (hr0.symm.trans ?_))
  rfl

end Go.Proofs.YtjcgaelibiiiiaaDoor
