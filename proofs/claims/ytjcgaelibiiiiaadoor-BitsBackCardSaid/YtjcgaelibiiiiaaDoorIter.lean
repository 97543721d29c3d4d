/-
  bits.numbers' closure as an iterator. By this seat's session.
-/
import Derived.Test.YtjcgaelibiiiiaaDoorTz
import Derived.Test.YtjcgaelibiiiiaaDoorNums
import Derived.RangeFuncNested
import Derived.RangeFuncBound
import Derived.RangeFuncCalls
import Derived.RangeFuncLeaves
import Derived.RangeFuncBox
import Derived.Shelf.Abstract
import Derived.Shelf.RegionOpen
import Derived.OwnWalkIn
import Derived.TacticsInMore
import Derived.LoopNIn
import Derived.LoopIn
set_option linter.unusedVariables false
namespace Go.Proofs.YtjcgaelibiiiiaaDoor
open Go.RowKit Go.Shelf Go.Proofs
attribute [local go_sem] Oper.semAt_some

theorem numsW_zero (a : Nat) : numsW a 0 = [] := by simp [numsW, Abs.bitsL_zero]
theorem numsW_step (a r : Nat) (h : r ≠ 0) (hr : r < 18446744073709551616) : numsW a r = ((64 * a + Lib.ctz 64 r : Nat) : Int) :: numsW a (r &&& (r - 1)) := by
  unfold numsW
  rw [Abs.bitsL_low 64 0 r h hr]
  simp [Lib.ctz, h]
theorem numsA_take {ws : List (Nat × Nat)} {k : Nat} {p : Nat × Nat} (hp : ws[k]? = some p) : numsA (ws.take (k + 1)) = numsA (ws.take k) ++ numsW p.1 p.2 := by
  rw [List.take_add_one, hp]; simp [numsA]
theorem numsA_prefix {ws : List (Nat × Nat)} {k : Nat} {p : Nat × Nat} (hp : ws[k]? = some p) {d e : List Int} (h : numsW p.1 p.2 = d ++ e) : (numsA (ws.take k) ++ d) <+: numsA ws := by
  have h1 : numsA (ws.take (k + 1)) <+: numsA ws := by
    refine ⟨numsA (ws.drop (k + 1)), ?_⟩
    rw [← List.take_append_drop (k + 1) ws]
    simp only [numsA, List.take_append_drop]
    rw [← List.flatMap_append, List.take_append_drop]
  refine List.IsPrefix.trans ?_ h1
  rw [numsA_take hp, h, ← List.append_assoc]
  exact List.prefix_append _ _
/-- What a round keeps: what lay below, and every block of words. -/
def Kp52 (n₀ : Nat) (W W' : World) : Prop := Below n₀ W W' ∧ ∀ (k : Nat) (c : Array Value) (fr : Nat × Nat), W.heap[k]? = some (Obj.cells c 52 fr) → W'.heap[k]? = some (Obj.cells c 52 fr)

set_option maxRecDepth 100000 in
set_option maxHeartbeats 4000000 in
theorem it_in (n : Nat) (hn : 1 ≤ n) (l Bs n₀ b off cap : Nat) (sa : Option Addr) (ws : List (Nat × Nat)) (hreach : ws.length * 16 ≤ 140737488351232) (hb : 0 < ws.length → b < n₀) (h0n : 0 < n₀) (J Jx : List Int → World → Prop)
    (hY : ∀ pre x W, J pre W → pre.length < (numsA ws).length → YieldAt Fence.wide (n - 1) Tryd.prog l #[.int .i64 x] W fun e W' =>
      (e = .returned (.bool true) ∧ J (pre ++ [x]) W' ∧ Kp52 n₀ W W') ∨ (e = .returned (.bool false) ∧ Jx (pre ++ [x]) W'))
    (hJ : ∀ pre W (c : Array Value) t, J pre W → J pre (W.alloc (.cells c t)))
    (hJd : ∀ pre (W : World), J pre W → J pre W.drew) (W : World) (hW0 : n₀ ≤ W.heap.size) (hBs : W.cell? ⟨Bs, 0, none⟩ = some (.slice sa ws.length cap)) (hsa : 0 < ws.length → sa = some ⟨b, off, none⟩)
    (hc : ∀ j p, ws[j]? = some p → W.cell? ⟨b, off + j * 2, none⟩ = some (.int .i64 (p.1 : Nat)) ∧ W.cell? ⟨b, off + j * 2 + 1, none⟩ = some (.int .u64 (p.2 : Nat)))
    (hbd : ∀ p ∈ ws, p.1 < 16384 ∧ p.2 < 18446744073709551616) (hT : TabAt 0 Lib.deBruijn64tab W) (h0 : J [] W) :
    CallsIn Fence.wide n Tryd.prog 41 #[.func (.yield l) #[] #[], .pointer (some ⟨Bs, 0, none⟩)] W fun e W' => (∃ v, e = .returned v) ∧
      ((∃ ys, ys = numsA ws ∧ J ys W') ∨ (∃ pre, pre <+: numsA ws ∧ Jx pre W')) := by
  refine callsIn_of_wp Tryd.func41 rfl trivial ?_ rfl
  simp only [Tryd.ntmps41, List.size_toArray, List.length_cons, List.length_nil, Nat.reduceAdd, Nat.reduceSub, Array.replicate_succ, Array.replicate_zero, List.push_toArray, List.append_toArray, List.nil_append, List.cons_append]
  gi_wp2
  gi_loopw [8] (fun i wr => ∃ k : Nat, k ≤ ws.length ∧ i = .int .i64 k ∧ J (numsA (ws.take k)) wr ∧ Below n₀ W wr)
    (fun i _ => ws.length - (intOf i).toNat)
  case atStart => exact ⟨0, Nat.zero_le _, rfl, by simpa [numsA] using h0, Below.refl _ _⟩
  case round =>
    obtain ⟨k, hk, rfl, hJs, hnx⟩ := hrel
    by_cases hlt : k < ws.length
    · have hb := hb (by omega)
      have hsa' := hsa (by omega)
      subst hsa'
      obtain ⟨p, hp⟩ : ∃ p, ws[k]? = some p := ⟨ws[k], by simp [hlt]⟩
      have hc1 : wr.cell? ⟨b, off + k * 2, none⟩ = some (.int .i64 (p.1 : Nat)) := (hnx.cell (p := ⟨b, off + k * 2, none⟩) hb).trans (hc k p hp).1
      have hc2 : wr.cell? ⟨b, off + k * 2 + 1, none⟩ = some (.int .u64 (p.2 : Nat)) := (hnx.cell (p := ⟨b, off + k * 2 + 1, none⟩) hb).trans (hc k p hp).2
      gi_wp2
      obtain ⟨w1, e1⟩ : ∃ w1, w1 = wr := ⟨_, rfl⟩
      subst e1
      have hbox : (w1.alloc (Obj.cells #[Value.int IntKind.i64 ↑p.fst, Value.int IntKind.u64 ↑p.snd] 52)).heap[w1.heap.size]? = some (.cells #[Value.int IntKind.i64 ↑p.fst, Value.int IntKind.u64 ↑p.snd] 52 (0, 0)) := World.alloc_heap_new w1 _
      gi_loopw [5] (fun r wr => ∃ q : Nat, q < 18446744073709551616 ∧ r = .int .u64 q ∧ (∃ done, numsW p.1 p.2 = done ++ numsW p.1 q ∧ J (numsA (ws.take k) ++ done) wr) ∧ Below n₀ W wr ∧ wr.heap[w1.heap.size]? = some (.cells #[Value.int IntKind.i64 ↑p.fst, Value.int IntKind.u64 ↑p.snd] 52 (0, 0)))
        (fun r _ => (intOf r).toNat)
      case atStart =>
        exact ⟨p.2, (hbd p (List.mem_of_getElem? hp)).2, rfl, ⟨[], by simp, by simpa using hJ _ _ _ _ hJs⟩, hnx.alloc (by have := hnx.size; omega) _, hbox⟩
      case round =>
        obtain ⟨q, hq, rfl, ⟨done, hdone, hJ2⟩, hB2, hbox2⟩ := hrel
        have hb1 : wr.cell? ⟨w1.heap.size, 0, none⟩ = some (.int .i64 (p.1 : Nat)) := by simp [World.cell?, hbox2]
        by_cases hq0 : q = 0
        · subst hq0
          gi_wp2
          go_roundw
          case rel =>
            refine ⟨k + 1, by omega, by simp, ?_, hB2⟩
            rw [numsA_take hp, hdone, numsW_zero, List.append_nil]; exact hJ2
          case measure => simp [intOf]; omega
        · obtain ⟨fn, tmps, assign, body, hy, hR⟩ := hY _ ((64 * p.1 + Lib.ctz 64 q : Nat) : Int) wr.drew (hJd _ _ hJ2) (by
            have := (numsA_prefix hp (d := done ++ [((64 * p.1 + Lib.ctz 64 q : Nat) : Int)]) (e := numsW p.1 (q &&& (q - 1))) (by rw [hdone, numsW_step _ _ hq0 hq]; simp)).length_le
            simp at this ⊢; omega)
          gi_wp2
          have hmx : Tryd.prog.follows .mixedOrders = true := by kernel_rfl
          have tz := callsIn_wide (n := n - 1).2 (tz_calls q hq wr.drew (fun _ j hj => by rw [← hT j hj]; exact (hB2.drew).cell (p := ⟨0, j, none⟩) h0n))
          have hb1d : wr.drew.cell? ⟨w1.heap.size, 0, none⟩ = some (.int .i64 (p.1 : Nat)) := hb1
          have andq : bits BinOp.and IntKind.u64 (q : Int) ((q : Int) - 1) = ((q &&& (q - 1) : Nat) : Int) := by
            rw [show (q : Int) - 1 = ((q - 1 : Nat) : Int) by omega]
            exact bits_and_u64_nat q (q - 1) hq (by omega)
          have hct : Lib.ctz 64 q < 64 := (Lib.lowest_bit 64 q hq0 hq).2
          have hp1 := (hbd p (List.mem_of_getElem? hp)).1
          have hwr : IntKind.i64.wrap (IntKind.i64.wrap (64 * (p.fst : Int)) + ((Lib.ctz 64 q : Nat) : Int)) = ((64 * p.1 + Lib.ctz 64 q : Nat) : Int) := by
            rw [show IntKind.i64.wrap (64 * (p.fst : Int)) = 64 * (p.fst : Int) by unfold IntKind.wrap; simp only [IntKind.bits, IntKind.signed, Bool.true_and, decide_eq_true_eq, ge_iff_le]; split <;> omega]
            unfold IntKind.wrap; simp only [IntKind.bits, IntKind.signed, Bool.true_and, decide_eq_true_eq, ge_iff_le]; split <;> omega
          rw [← hwr] at hy
          clear hwr
          have andq' := andq
          clear andq
          replace hR := hR.mono (R' := fun e W' => ∃ bb : Bool, e = .returned (.bool bb) ∧ ((bb = true ∧ J (numsA (ws.take k) ++ done ++ [((64 * p.1 + Lib.ctz 64 q : Nat) : Int)]) W' ∧ Kp52 n₀ wr.drew W') ∨ (bb = false ∧ Jx (numsA (ws.take k) ++ done ++ [((64 * p.1 + Lib.ctz 64 q : Nat) : Int)]) W'))) (fun e W' h => by
            rcases h with ⟨rfl, h1, h2⟩ | ⟨rfl, h1⟩
            · exact ⟨true, rfl, .inl ⟨rfl, h1, h2⟩⟩
            · exact ⟨false, rfl, .inr ⟨rfl, h1⟩⟩)
          gi_region_with_o (first
            | (refine ⟨trivial, ?_⟩; gi_at_call 42; refine tz.mono ?_; rintro e w' ⟨rfl, rfl⟩)
            | (refine hR.mono ?_; rintro e W3 ⟨bb, rfl, hbb⟩))
          all_goals (rcases hbb with ⟨rfl, hJ3, hk3⟩ | ⟨rfl, hJx3⟩)
          all_goals gi_wp2
          all_goals (have andq := andq')
          all_goals first
            | (refine bodyPost_ret (results_none rfl _ _ _) rfl ?_
               exact ⟨⟨_, rfl⟩, .inr ⟨_, numsA_prefix hp (d := done ++ [((64 * p.1 + Lib.ctz 64 q : Nat) : Int)]) (e := numsW p.1 (q &&& (q - 1))) (by rw [hdone, numsW_step _ _ hq0 hq]; simp), by rw [← List.append_assoc]; exact hJx3⟩⟩)
            | (go_roundw
               case rel =>
                 refine ⟨q &&& (q - 1), Nat.lt_of_lt_of_le (Abs.low_lt hq0) (by omega), ?_, ⟨done ++ [((64 * p.1 + Lib.ctz 64 q : Nat) : Int)], by rw [hdone, numsW_step _ _ hq0 hq]; simp, by rw [← List.append_assoc]; exact hJ3⟩, hB2.drew.trans hk3.1, hk3.2 _ _ _ hbox2⟩
                 rw [← andq]
               case measure =>
                 simp only [intOf]
                 have := Abs.low_lt hq0
                 simp
                 omega)
    · obtain rfl : k = ws.length := by omega
      gi_wp2
      go_end0
      exact ⟨⟨_, rfl⟩, .inl ⟨_, rfl, by simpa using hJs⟩⟩
end Go.Proofs.YtjcgaelibiiiiaaDoor
