/-
  bits.List, walked: a range over a function that collects. By this seat's session.
-/
import Derived.Test.YtjcgaelibiiiiaaDoorIter
import Derived.RangeFuncWrites
import Derived.Maps.AppendAt
set_option linter.unusedVariables false
namespace Go.Proofs.YtjcgaelibiiiiaaDoor
open Go.RowKit Go.Shelf Go.Proofs
attribute [local go_sem] Oper.semAt_some

set_option maxHeartbeats 1000000 in
theorem numbers_in (n : Nat) (a : Option Addr) (len cap : Nat) (w : World) :
    CallsIn Fence.wide n Tryd.prog 26 #[.slice a len cap] w fun e w' => e = .returned (.func (.func 41) #[] #[.pointer (some ⟨w.heap.size, 0, none⟩)]) ∧ w' = w.alloc (.cells #[.slice a len cap] 23) := by
  refine callsIn_of_wp Tryd.func26 rfl trivial ?_ rfl
  simp only [Tryd.ntmps26, List.size_toArray, List.length_cons, List.length_nil, Nat.reduceAdd, Nat.reduceSub, Array.replicate_succ, Array.replicate_zero, List.push_toArray, List.append_toArray, List.nil_append, List.cons_append]
  gi_wp2
  go_ret
  exact ⟨rfl, rfl⟩
theorem kp52_t {n₀ : Nat} {A B C : World} (h : Kp52 n₀ A B) (k : Kp52 n₀ B C) : Kp52 n₀ A C := ⟨h.1.trans k.1, fun i c fr hi => k.2 i c fr (h.2 i c fr hi)⟩
theorem kp52_b {n₀ : Nat} {w : World} (hn : n₀ ≤ w.heap.size) (W : World) (l : Nat) (o o' : Obj) (hl : w.heap.size ≤ l) (h : W.heap[l]? = some o) (hc : o.isCells = false) (hw : o.isWalk = false) : Kp52 n₀ W (W.putObj l o') := by
  refine ⟨belowK_b hn W l o o' hl h hc hw, fun i c fr hi => ?_⟩
  have hne : i ≠ l := by rintro rfl; rw [h] at hi; cases hi; cases hc
  exact (World.putObj_heap_other hne).trans hi
theorem it_stops (n : Nat) (hn : 1 ≤ n) (Bs n₀ b off cap : Nat) (sa : Option Addr) (ws : List (Nat × Nat)) (hreach : ws.length * 16 ≤ 140737488351232) (hb : 0 < ws.length → b < n₀) (h0n : 0 < n₀) (w : World) (hBs0 : Bs < w.heap.size) (hn₀ : n₀ ≤ w.heap.size)
    (hBs : w.cell? ⟨Bs, 0, none⟩ = some (.slice sa ws.length cap)) (hsa : 0 < ws.length → sa = some ⟨b, off, none⟩)
    (hc : ∀ j p, ws[j]? = some p → w.cell? ⟨b, off + j * 2, none⟩ = some (.int .i64 (p.1 : Nat)) ∧ w.cell? ⟨b, off + j * 2 + 1, none⟩ = some (.int .u64 (p.2 : Nat)))
    (hbd : ∀ p ∈ ws, p.1 < 16384 ∧ p.2 < 18446744073709551616) (hT : TabAt 0 Lib.deBruijn64tab w) :
    SeqStopsK Fence.wide n Tryd.prog 41 #[.pointer (some ⟨Bs, 0, none⟩)] (fun x : Int => #[Value.int .i64 x]) (Kp52 n₀) (fun ys => ys = numsA ws) (fun pre => pre <+: numsA ws) (numsA ws).length w := fun l J Jx W hW hJ _ hY h0 => by
  refine it_in n hn l Bs n₀ b off cap sa ws hreach hb h0n J Jx hY (fun pre W' c t h => hJ pre W' _ none h (World.grownBy_alloc W' _ none) (by simp)) (fun pre W' h => hJ pre W' _ none h ?_ (by simp)) W (Nat.le_trans hn₀ hW.size) ((hW.cell (p := ⟨Bs, 0, none⟩) hBs0).trans hBs) hsa
    (fun j p hp => ?_) hbd (fun j hj => (hW.cell (p := ⟨0, j, none⟩) (by omega : 0 < w.heap.size)).trans (hT j hj)) h0
  · exact ⟨rfl, rfl, rfl, Nat.le_refl _, fun _ _ _ => rfl⟩
  · have := hb (by have := (List.getElem?_eq_some_iff.1 hp).1; omega)
    exact ⟨(hW.cell (p := ⟨b, off + j * 2, none⟩) (by omega : b < w.heap.size)).trans (hc j p hp).1, (hW.cell (p := ⟨b, off + j * 2 + 1, none⟩) (by omega : b < w.heap.size)).trans (hc j p hp).2⟩
theorem kp52_appended {W w1 : World} {n₀ B : Nat} {v v' : Value} {k : Nat} {xs : List Value} {tmp : Obj} (hv : Boxed W B 24 v) (hrow : W.ownsRow n₀ 3 1 v k xs) (hgrow : (W.alloc tmp).grownBy w1 v.ownBlock) :
    ∀ (j : Nat) (c : Array Value) (fr : Nat × Nat), W.heap[j]? = some (Obj.cells c 52 fr) → (w1.setCell ⟨B, 0, none⟩ v').heap[j]? = some (Obj.cells c 52 fr) := by
  intro j c fr hj
  have hlt := (Array.getElem?_eq_some_iff.1 hj).1
  have h1 : (W.alloc tmp).heap[j]? = some (Obj.cells c 52 fr) := by rw [(World.grownBy_alloc W tmp none).block j hlt (by simp)]; exact hj
  have h2 : w1.heap[j]? = some (Obj.cells c 52 fr) := by
    rw [hgrow.block j (by rw [World.size_alloc]; omega) ?_]
    · exact h1
    · rcases hrow.2 with ⟨rfl, _⟩ | ⟨g, cap, cur, rfl, _, hgb, _⟩
      · simp [Value.ownBlock]
      · intro e
        simp only [Value.ownBlock, Option.some.injEq] at e
        subst e
        rw [hj] at hgb; cases hgb
  have hlt2 := (Array.getElem?_eq_some_iff.1 h2).1
  rw [(grownBy_setCell' w1 B v').block j hlt2 ?_]
  · exact h2
  · intro e
    have e' : j = B := Option.some.inj e
    rw [e'] at hj
    have h5 : W.heap[B]? = some (Obj.cells #[v] 24 (0, 0)) := hv
    rw [hj] at h5
    cases h5
theorem info3 : (Tryd.prog.info? 3).map (fun i => (i.zero, i.size, i.bytes)) = some (some (.int .i64 0), 1, 8) := by kernel_rfl

set_option maxRecDepth 100000 in
set_option maxHeartbeats 4000000 in
/-- A set that may be: its numbers, in a row of its own; what lay stays. -/
theorem list_in (b off cap : Nat) (sa : Option Addr) (ws : List (Nat × Nat)) (hreach : ws.length * 16 ≤ 140737488351232) (hN : (numsA ws).length * 8 ≤ 140737488355328) (w : World) (hb : 0 < ws.length → b < w.heap.size) (h0n : 0 < w.heap.size)
    (hsa : 0 < ws.length → sa = some ⟨b, off, none⟩)
    (hc : ∀ j p, ws[j]? = some p → w.cell? ⟨b, off + j * 2, none⟩ = some (.int .i64 (p.1 : Nat)) ∧ w.cell? ⟨b, off + j * 2 + 1, none⟩ = some (.int .u64 (p.2 : Nat)))
    (hbd : ∀ p ∈ ws, p.1 < 16384 ∧ p.2 < 18446744073709551616) (hT : TabAt 0 Lib.deBruijn64tab w)
    (hchk : ∀ w', Below w.heap.size w w' → Calls Tryd.prog 15 #[.slice sa ws.length cap] w' fun e w'' => e = .returned (.int .i64 0) ∧ Below w'.heap.size w' w'') :
    Calls Tryd.prog 8 #[.slice sa ws.length cap] w fun e W' => ∃ v, e = .returned (.tuple #[v, .int .i64 0]) ∧ W'.ownsRow w.heap.size 3 1 v (numsA ws).length ((numsA ws).map (Value.int .i64)) ∧ Below w.heap.size w W' := by
  refine (callsIn_wide (n := 5)).1 ?_
  obtain ⟨i0, hi, hz0, hz1, hz2⟩ := info_parts info3
  refine callsIn_of_wp_marks Tryd.func8 rfl trivial ?_ rfl
  simp only [Tryd.ntmps8, List.size_toArray, List.length_cons, List.length_nil, Nat.reduceAdd, Nat.reduceSub, Array.replicate_succ, Array.replicate_zero, List.push_toArray, List.append_toArray, List.nil_append, List.cons_append]
  have bO := Boxed.new w 24 (.slice none 0 0)
  gi_wp2_with (first
    | (refine ⟨trivial, ?_⟩; gi_at_call 15; refine (callsIn_wide.2 (hchk _ ((Below.refl _ w).alloc (Nat.le_refl _) _))).mono ?_; rintro e w2 ⟨rfl, hB2⟩)
    | (refine ⟨trivial, ?_⟩; gi_at_call 26; refine (numbers_in _ _ _ _ _).mono ?_; rintro e w' ⟨rfl, rfl⟩))
  have hs2 : w.heap.size + 1 ≤ w2.heap.size := by have := hB2.size; rwa [World.size_alloc] at this
  have bO2 : Boxed w2 w.heap.size 24 (.slice none 0 0) := by
    have h := hB2.block w.heap.size (by rw [World.size_alloc]; omega)
    exact h.trans bO
  have hBw2 : Below w.heap.size w w2 := ((Below.refl _ w).alloc (Nat.le_refl _) _).trans (hB2.mono (by rw [World.size_alloc]; omega))
  have bN := Boxed.new w2 23 (.slice sa ws.length cap)
  have hB0 : Below w.heap.size w (w2.alloc (.cells #[.slice sa ws.length cap] 23)) := hBw2.alloc (by omega) _
  refine wpIn_rangeFunc_ownG (F := Fence.wide) rfl (by omega) (gf := 41) (lb := #[.pointer (some ⟨w2.heap.size, 0, none⟩)]) rfl trivial (enters_of Tryd.func41 (by kernel_rfl) rfl)
    (it_stops (5 - 1) (by omega) w2.heap.size w.heap.size b off cap sa ws hreach hb h0n (w2.alloc (.cells #[.slice sa ws.length cap] 23)) (by rw [World.size_alloc]; omega) (by rw [World.size_alloc]; omega) bN.cell hsa
      (fun j p hp => by
        have hbb := hb (by have := (List.getElem?_eq_some_iff.1 hp).1; omega)
        exact ⟨(hB0.cell (p := ⟨b, off + j * 2, none⟩) hbb).trans (hc j p hp).1, (hB0.cell (p := ⟨b, off + j * 2 + 1, none⟩) hbb).trans (hc j p hp).2⟩) hbd
      (fun j hj => (hB0.cell (p := ⟨0, j, none⟩) h0n).trans (hT j hj))) kp52_t (kp52_b (by rw [World.size_alloc]; omega)) (Below.refl _ _) (fun _ => rfl)
    (fun (pre : List Int) W => (∃ v, Boxed W w.heap.size 24 v ∧ W.ownsRow w.heap.size 3 1 v pre.length (pre.map (Value.int .i64)) ∧ True) ∧ Below w.heap.size w W)
    (fun _ _ _ => False)
    (OwnFrom.and (Own.from (holdsRow_own w.heap.size w.heap.size 24 3 1 (fun pre : List Int => pre.length) (fun pre => pre.map (Value.int .i64)) (fun _ _ => True)) _) (ownFrom_below (Nat.le_refl _) (by rw [World.size_alloc]; omega)))
    (fun _ _ _ _ _ hs _ _ => hs)
    ⟨⟨_, bO2.alloc _, World.ownsRow_nil _ _ _ _, trivial⟩, hB0⟩
    (fun x => { tmps := #[.slice sa ws.length cap, undef, .pointer (some ⟨w.heap.size, 0, none⟩), .int .i64 0, .int .i64 0, .int .i64 x, .slice sa ws.length cap, .int .i64 0, .int .i64 0, .bool false, undef, .slice sa ws.length cap, .func (.func 41) #[] #[.pointer (some ⟨w2.heap.size, 0, none⟩)], .int .i64 x, undef, undef, undef, undef, undef], defers := [] }) ?assign ?body ?done ?stop
  case assign =>
    intro l x W K hK
    gi_wp2
    exact hK
  case body =>
    rintro l pre x W ⟨⟨v, hv, hrow, _⟩, hB⟩ hlt
    have hcv := hv.cell
    gi_wp2_with (gi_at_builtin; refine wpListIn_append_own _ rfl _ _ 24 rfl w.heap.size 3 i0 (.int .i64 0) 1 8 Tryd.underlying24 hi hz0 hz1 hz2 rfl (by decide) _ _ _ rfl (hrow.alloc _) ⟨W.heap.size, 0, none⟩ 1 1 [.int .i64 x] rfl rfl (cell_one_new _ _ _) (by simp [Value.oneCell']) (by unfold maxLen; omega) (by omega) (by have := hB.size; simp; omega) ?_; intro v' w1 hown' hgrow _; have hkp := kp52_appended (v' := v') hv hrow hgrow; obtain ⟨g', cap', rfl⟩ := ownsRow_succ hown'; obtain ⟨hv1, hv2, hr2, hk2, hb2⟩ := hv.appended (by decide) hrow hB.size (Nat.le_refl _) hown' hgrow; have hc1 := hv1.cell; have hf1 := hv1.frozen)
    exact ⟨hk2.from _, ⟨hb2, hkp⟩, ⟨_, hv2, by simpa using hr2, trivial⟩, hB.trans hb2⟩
  case done =>
    rintro D ys W hD rfl ⟨⟨v, hv, hrow, _⟩, hB⟩ hK
    obtain ⟨oa, nn, cc, rfl⟩ : ∃ oa nn cc, v = .slice oa nn cc := by
      rcases hrow.2 with ⟨rfl, _⟩ | ⟨g, cap', cur, rfl, _⟩
      · exact ⟨_, _, _, rfl⟩
      · exact ⟨_, _, _, rfl⟩
    have hcv := hv.cell
    have hfv := hv.frozen
    gi_wp2
    have hK2 := (KeepsOthers.setCell W ⟨w.heap.size, 0, none⟩ (.slice oa nn cc)).same D _ hK rfl
    refine ⟨by simp, .inl ⟨_, _, rfl, run_takeDeferred hK2, ?_⟩⟩
    have hv2 := hv.set (.slice oa nn cc)
    have hv3 : Boxed ((W.setCell { block := w.heap.size, off := 0 } (Value.slice oa nn cc)).putObj D (Obj.deferred none)) w.heap.size 24 (.slice oa nn cc) :=
      hv2.kept (grownBy_putObj' _ D (.deferred none)) (by
        intro e
        have e' : w.heap.size = D := Option.some.inj e
        rw [← e'] at hK
        have h5 : W.heap[w.heap.size]? = some (Obj.cells #[.slice oa nn cc] 24 (0, 0)) := hv
        rw [hK] at h5; cases h5)
    refine ⟨.tuple #[.slice oa nn cc, .int .i64 0], ?_, _, rfl, ?_, ?_⟩
    · have hcell := hv3.cell
      have hrs : Tryd.f8.results = #[.cell 2 24, .tmp 3] := rfl
      unfold results
      rw [hrs]
      go_simp
    · refine ownsRow_putObj ?_ _ hK2 rfl
      exact hrow.kept (grownBy_setCell' W w.heap.size _) (.inr (hv.not_row (by decide) hrow).symm)
    · exact (hB.setCell (p := ⟨w.heap.size, 0, none⟩) (Nat.le_refl _) _).trans (belowK_b (w := w) (Nat.le_refl _) _ D _ _ (by rw [World.size_alloc] at hD; omega) hK2 rfl rfl)
  case stop =>
    rintro D c pre W _ _ h _
    exact h.elim
set_option maxRecDepth 100000 in
set_option maxHeartbeats 4000000 in
/-- A set that may not be: the error. -/
theorem list_bad (cap len : Nat) (sa : Option Addr) (w : World)
    (hchk : ∀ w', Below w.heap.size w w' → Calls Tryd.prog 15 #[.slice sa len cap] w' fun e w'' => e = .returned (.int .i64 8) ∧ Below w'.heap.size w' w'') :
    Calls Tryd.prog 8 #[.slice sa len cap] w fun e W' => e = .returned (.tuple #[.slice none 0 0, .int .i64 8]) ∧ Below w.heap.size w W' := by
  refine (callsIn_wide (n := 5)).1 ?_
  refine callsIn_of_wp_marks Tryd.func8 rfl trivial ?_ rfl
  simp only [Tryd.ntmps8, List.size_toArray, List.length_cons, List.length_nil, Nat.reduceAdd, Nat.reduceSub, Array.replicate_succ, Array.replicate_zero, List.push_toArray, List.append_toArray, List.nil_append, List.cons_append]
  have bO := Boxed.new w 24 (.slice none 0 0)
  gi_wp2_with (
    (refine ⟨trivial, ?_⟩; gi_at_call 15; refine (callsIn_wide.2 (hchk _ ((Below.refl _ w).alloc (Nat.le_refl _) _))).mono ?_; rintro e w2 ⟨rfl, hB2⟩; have bO2 : Boxed w2 w.heap.size 24 (.slice none 0 0) := (hB2.block w.heap.size (by rw [World.size_alloc]; omega)).trans bO; have hcv := bO2.cell; have hfv := bO2.frozen))
  have hv2 := (show Boxed w2 w.heap.size 24 (.slice none 0 0) from bO2).set (.slice none 0 0)
  refine ⟨.tuple #[.slice none 0 0, .int .i64 8], ?_, rfl, ?_⟩
  · have hcell := hv2.cell
    have hrs : Tryd.f8.results = #[.cell 2 24, .tmp 3] := rfl
    unfold results
    rw [hrs]
    go_simp
  · have hBw2 : Below w.heap.size w w2 := ((Below.refl _ w).alloc (Nat.le_refl _) _).trans (hB2.mono (by rw [World.size_alloc]; omega))
    exact hBw2.setCell (p := ⟨w.heap.size, 0, none⟩) (Nat.le_refl _) _
end Go.Proofs.YtjcgaelibiiiiaaDoor
