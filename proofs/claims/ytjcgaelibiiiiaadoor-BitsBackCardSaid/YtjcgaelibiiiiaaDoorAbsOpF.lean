/-
  THE ABSTRACT INTERPRETER: each operation that is no call is right, all of them. By this seat's session.
-/
import Derived.Test.YtjcgaelibiiiiaaDoorAbsOpE
set_option linter.unusedVariables false
set_option linter.unusedSimpArgs false
namespace Go.Abs

section
variable {P : Program} {env : Env} {base : Nat} {F : Nat → Prop} {H0 N0 : Nat} {A : Gh} {w : World} {s : St}

theorem info_of (hE : EnvOK P env) {t : TypeId} {n : Nat} (h : env.size t = some n) (w : World) : (sizeOf t).run P w = .ok n w := by
  obtain ⟨i, hi, hs⟩ := hE.size t n h
  simp [sizeOf, typeInfo, hi, hs]
theorem zero_of (hE : EnvOK P env) {t : TypeId} {z : List AVal} (h : env.zero t = some z) : ∃ v, (∀ w, (zeroValue t).run P w = .ok v w) ∧ (∀ A X w, RepL A X w v.cells.toList z) ∧ (∀ u ∈ v.cells.toList, u.oneCell' = true) := by
  obtain ⟨i, v, hi, hz, hr, ho⟩ := hE.zero t z h
  exact ⟨v, fun w => by simp [zeroValue, typeInfo, hi, hz], hr, ho⟩

theorem index_of {n : Nat} {a : AVal} {k : Nat} {X : Nat → Prop} {v : Value} (h : aInd n a = some k) (hr : Rep A X w v a) : ∃ kd z, v = .int kd z ∧ 0 ≤ z ∧ z < n ∧ z.toNat = k ∧ k < n := by
  unfold aInd at h
  split at h
  · rename_i kd z
    split at h
    · rename_i hc
      simp only [Bool.and_eq_true, decide_eq_true_eq] at hc
      cases h
      exact ⟨kd, z, hr.raw_inv, hc.1, hc.2, rfl, by omega⟩
    · cases h
  · cases h
theorem bound_of {n : Nat} {a : AVal} {k : Nat} {X : Nat → Prop} {v : Value} (h : aBound n a = some k) (hr : Rep A X w v a) : ∃ kd z, v = .int kd z ∧ 0 ≤ z ∧ z ≤ n ∧ z.toNat = k ∧ k ≤ n := by
  unfold aBound at h
  split at h
  · rename_i kd z
    split at h
    · rename_i hc
      simp only [Bool.and_eq_true, decide_eq_true_eq] at hc
      cases h
      exact ⟨kd, z, hr.raw_inv, hc.1, hc.2, rfl, by omega⟩
    · cases h
  · cases h
theorem run_sliceBound {v : Value} {kd : IntKind} {z : Int} {y : Nat} {code : BoundsCode} (hv : v = .int kd z) (h0 : 0 ≤ z) (h1 : z ≤ y) (w : World) : (Instr.sliceBound v y code).run P w = .ok z.toNat w := by
  subst hv; simp [Instr.sliceBound, asIntOf, h0, h1]
/-- The bounds of a slice of a slice. -/
theorem bounds_spec (h : WOK env A F w s.m H0 N0) {act : Act} (hfr : ∀ t, Rep A (Own A s.m F) w (act.tmps.getD t undef) (s.get t)) {lo hi : Option Operand} {n cap hh ll : Nat} (hn : n ≤ cap) (h1 : aHi env s hi n = some hh) (h2 : aLo env s lo hh = some ll) :
    (Instr.sliceBounds true n cap (lo.map act.eval) (hi.map act.eval) none).run P w = .ok (ll, hh, cap) w ∧ ll ≤ hh ∧ hh ≤ n := by
  have hhi : (match hi.map act.eval with | some v => Instr.sliceBound v cap .sliceAcap | none => pure n : Sem Nat).run P w = .ok hh w ∧ hh ≤ n := by
    cases hi with
    | none => simp only [aHi, Option.some.injEq] at h1; subst h1; exact ⟨rfl, Nat.le_refl _⟩
    | some x =>
      simp only [aHi] at h1
      obtain ⟨a, ha, hb⟩ := Option.bind_eq_some_iff.1 h1
      obtain ⟨kd, z, hv, hz0, hz1, hz2, hz3⟩ := bound_of hb (eval_spec h hfr ha)
      exact ⟨by simp only [Option.map_some]; rw [run_sliceBound hv hz0 (by omega), hz2], hz3⟩
  have hlo : (match lo.map act.eval with | some v => Instr.sliceBound v hh .sliceB | none => pure 0 : Sem Nat).run P w = .ok ll w ∧ ll ≤ hh := by
    cases lo with
    | none => simp only [aLo, Option.some.injEq] at h2; subst h2; exact ⟨rfl, Nat.zero_le _⟩
    | some x =>
      simp only [aLo] at h2
      obtain ⟨a, ha, hb⟩ := Option.bind_eq_some_iff.1 h2
      obtain ⟨kd, z, hv, hz0, hz1, hz2, hz3⟩ := bound_of hb (eval_spec h hfr ha)
      exact ⟨by simp only [Option.map_some]; rw [run_sliceBound hv hz0 hz1, hz2], hz3⟩
  refine ⟨?_, hlo.2, hhi.2⟩
  cases hi <;> cases lo <;> simp_all [Instr.sliceBounds]

theorem fieldOf_spec (hE : EnvOK P env) {t : TypeId} {i off n ft : Nat} (h : fieldOf env t i = some (off, n, ft)) : ∃ fs f, P.underlying t = some (.struct fs) ∧ fs[i]? = some f ∧ f.offset = off ∧ f.type = ft ∧ env.size ft = some n ∧ 0 < n := by
  unfold fieldOf at h
  split at h
  · rename_i fs hu
    split at h
    · rename_i f hf
      obtain ⟨k, hk, h⟩ := Option.bind_eq_some_iff.1 h
      split at h
      · cases h
      · simp only [Option.some.injEq, Prod.mk.injEq] at h
        obtain ⟨h1, h2, h3⟩ := h
        subst h1; subst h2; subst h3
        exact ⟨fs, f, hE.under _ _ hu, hf, rfl, rfl, hk, by omega⟩
    · cases h
  · cases h

theorem obj_sz {m : Mem} (h : WOK env A F w m H0 N0) {o : OId} {g b s tot : Nat} (hg : (m.obj o).gen = g) (hA : A o g = some (b, s, tot)) {sz : Nat} (hs : (∃ es, (m.obj o).st = .ro sz es) ∨ (∃ es, (m.obj o).st = .row sz es)) : s = sz := by
  have hob := h.obj o
  unfold ObjOK at hob
  rcases hs with ⟨es, hs⟩ | ⟨es, hs⟩
  · rw [hs] at hob
    obtain ⟨_, _, _, _, h1, _⟩ := hob
    rw [hg, hA] at h1
    simp only [Option.some.injEq, Prod.mk.injEq] at h1
    exact h1.2.1
  · rw [hs] at hob
    obtain ⟨_, _, _, h1, _⟩ := hob
    rw [hg, hA] at h1
    simp only [Option.some.injEq, Prod.mk.injEq] at h1
    exact h1.2.1

theorem slice_spec (hE : EnvOK P env) (h : WOK env A F w s.m H0 N0) {act : Act} (hfr : ∀ t, Rep A (Own A s.m F) w (act.tmps.getD t undef) (s.get t)) {f : FuncId} {o : Oper} {t : TypeId} {x : Operand} {lo hi mx : Option Operand} (hop : o.op = .slice t x lo hi mx) {r : AVal} {m1 : Option Mem} (ho : aOp env f base o s = some (r, m1)) :
    m1 = none ∧ ∃ v, (execOp act.eval o).run P w = .ok (.value v) w ∧ Rep A (Own A s.m F) w v r := by
  simp only [aOp, hop] at ho
  obtain ⟨ax, hx, ho1⟩ := Option.bind_eq_some_iff.1 ho
  clear ho
  split at ho1
  · rename_i e hu
    obtain ⟨sz, hsz, ho2⟩ := Option.bind_eq_some_iff.1 ho1
    clear ho1
    have hrx := eval_spec h hfr hx
    have hsize := info_of hE hsz w
    have run : ∀ (a : Option Addr) (n cap hh ll : Nat), act.eval x = .slice a n cap → (Instr.sliceBounds true n cap (lo.map act.eval) (hi.map act.eval) none).run P w = .ok (ll, hh, cap) w →
        (execOp act.eval o).run P w = .ok (.value (.slice (if cap = ll then a else a.map (·.add (ll * sz))) (hh - ll) (cap - ll))) w := by
      intro a n cap hh ll he hb
      simp [execOp, hop, Instr.sliceAt, Instr.slice, run_underlying (hE.under _ _ hu), he, hb, hsize]
    split at ho2
    · rename_i es
      obtain ⟨hh, h1, ho3⟩ := Option.bind_eq_some_iff.1 ho2
      obtain ⟨ll, h2, ho4⟩ := Option.bind_eq_some_iff.1 ho3
      clear ho2 ho3
      simp only [Option.ite_none_right_eq_some, Option.some.injEq, Prod.mk.injEq] at ho4
      obtain ⟨hchk, rfl, rfl⟩ := ho4
      · refine ⟨rfl, ?_⟩
        generalize hv : act.eval x = v at hrx
        obtain ⟨ad, c, rfl, hc⟩ := hrx.sl_inv
        obtain ⟨hb, hl1, hl2⟩ := bounds_spec (P := P) h hfr hc h1 h2
        refine ⟨_, run _ _ _ _ _ hv hb, ?_⟩
        have hlen : ((es.take hh).drop ll).length = hh - ll := by simp; omega
        by_cases hz : hh - ll = 0
        · have : (es.take hh).drop ll = [] := List.eq_nil_of_length_eq_zero (by omega)
          rw [this, hz]
          exact .nil _ _
        · have hcl : ¬ c = ll := by omega
          rw [if_neg hcl]
          have hne : es ≠ [] := by intro e; subst e; simp at hl2; omega
          obtain ⟨ad', c', sz', fv, hveq, h0, hc', hl, hm, hr⟩ := hrx.sl_inv' hne
          · cases hveq
            have hs : sz' = sz := by
              cases es with
              | nil => exact absurd rfl hne
              | cons e0 es0 =>
                simp only [beq_iff_eq] at hchk
                have := hl e0 (by simp)
                omega
            subst hs
            have idx : ∀ i e, ((es.take hh).drop ll)[i]? = some e → es[ll + i]? = some e := by
              intro i e he
              rw [List.getElem?_drop, List.getElem?_take] at he
              split at he
              · exact he
              · cases he
            refine .sl (Addr.add _ (ll * sz')) (hh - ll) (c - ll) sz' _ (fun i j => fv (ll + i) j) h0 hlen.symm (by omega) (fun e he => hl e (List.mem_of_mem_take (List.mem_of_mem_drop he))) (fun i e j x he hx => ?_) (fun i e j x he hx => hr _ e j x (idx i e he) hx)
            obtain ⟨q0, q1, q2⟩ := hm _ e j x (idx i e he) hx
            refine ⟨q0, by rw [add_block]; exact q1, ?_⟩
            rw [add_add]
            rw [show ll * sz' + (i * sz' + j) = (ll + i) * sz' + j by rw [Nat.add_mul]; omega]
            exact q2
    · rename_i og g lo0 n
      obtain ⟨hh, h1, ho3⟩ := Option.bind_eq_some_iff.1 ho2
      obtain ⟨ll, h2, ho4⟩ := Option.bind_eq_some_iff.1 ho3
      obtain ⟨b, s', tot, c, hA, hc, ht, hv⟩ := hrx.hs_inv
      obtain ⟨hb, hl1, hl2⟩ := bounds_spec (P := P) h hfr hc h1 h2
      have hrun := run _ _ _ _ _ hv hb
      split at ho4
      · rename_i hz
        simp only [Option.some.injEq, Prod.mk.injEq] at ho4
        obtain ⟨rfl, rfl⟩ := ho4
        rw [hz] at hrun
        exact ⟨rfl, _, hrun, .nil _ _⟩
      · rename_i hz
        have fin : s' = sz → some (AVal.hs og g (lo0 + ll) (hh - ll), (none : Option Mem)) = some (r, m1) → m1 = none ∧ ∃ v, (execOp act.eval o).run P w = .ok (.value v) w ∧ Rep A (Own A s.m F) w v r := by
          rintro rfl e
          simp only [Option.some.injEq, Prod.mk.injEq] at e
          obtain ⟨rfl, rfl⟩ := e
          refine ⟨rfl, _, hrun, ?_⟩
          rw [if_neg (by omega)]
          simp only [Option.map_some, add_cells]
          rw [show lo0 * s' + ll * s' = (lo0 + ll) * s' by rw [Nat.add_mul]]
          exact .hs og g (lo0 + ll) (hh - ll) (c - ll) b s' tot hA (by omega) (by rw [show lo0 + ll + (c - ll) = lo0 + c by omega]; exact ht)
        clear ho2 ho3
        try dsimp only at ho4
        split at ho4
        · rename_i hg
          split at ho4
          · rename_i es hst
            split at ho4
            · rename_i hs; exact fin ((obj_sz h hg hA (.inl ⟨_, hst⟩)).trans hs) ho4
            · cases ho4
          · rename_i es hst
            split at ho4
            · rename_i hs; exact fin ((obj_sz h hg hA (.inr ⟨_, hst⟩)).trans hs) ho4
            · cases ho4
          · cases ho4
        · cases ho4
    · obtain ⟨hh, h1, ho3⟩ := Option.bind_eq_some_iff.1 ho2
      obtain ⟨ll, h2, ho4⟩ := Option.map_eq_some_iff.1 ho3
      simp only [Prod.mk.injEq] at ho4
      obtain ⟨rfl, rfl⟩ := ho4
      obtain ⟨a, hv⟩ := hrx.e0_inv
      obtain ⟨hb, hl1, hl2⟩ := bounds_spec (P := P) h hfr (Nat.le_refl 0) h1 h2
      obtain rfl : hh = 0 := by omega
      obtain rfl : ll = 0 := by omega
      refine ⟨rfl, _, run _ _ _ _ _ hv hb, ?_⟩
      simpa using Rep.e0 (A := A) (X := Own A s.m F) (w := w) a
    · cases ho2
  · cases ho1

theorem indexAddr_spec (hE : EnvOK P env) (h : WOK env A F w s.m H0 N0) {act : Act} (hfr : ∀ t, Rep A (Own A s.m F) w (act.tmps.getD t undef) (s.get t)) {f : FuncId} {o : Oper} {t : TypeId} {x i : Operand} (hop : o.op = .indexAddr t x i) {r : AVal} {m1 : Option Mem} (ho : aOp env f base o s = some (r, m1)) :
    m1 = none ∧ ∃ v, (execOp act.eval o).run P w = .ok (.value v) w ∧ Rep A (Own A s.m F) w v r := by
  simp only [aOp, hop] at ho
  obtain ⟨ax, hx, ho1⟩ := Option.bind_eq_some_iff.1 ho
  obtain ⟨ai, hi, ho2⟩ := Option.bind_eq_some_iff.1 ho1
  clear ho ho1
  have hrx := eval_spec h hfr hx
  have hri := eval_spec h hfr hi
  split at ho2
  · rename_i e hu
    obtain ⟨sz, hsz, ho3⟩ := Option.bind_eq_some_iff.1 ho2
    clear ho2
    have hsize := info_of hE hsz w
    have run : ∀ (ad : Addr) (n cap : Nat) (kd : IntKind) (z : Int), act.eval x = .slice (some ad) n cap → act.eval i = .int kd z → 0 ≤ z → z < n → (execOp act.eval o).run P w = .ok (.value (.pointer (some (ad.add (z.toNat * sz))))) w := by
      intro ad n cap kd z he hi h0 h1
      simp [execOp, hop, Instr.indexAt, asIntOf, run_underlying (hE.under _ _ hu), he, hi, h0, h1, hsize]
    split at ho3
    · rename_i es
      obtain ⟨k, hk, ho4⟩ := Option.bind_eq_some_iff.1 ho3
      obtain ⟨c, hc, ho5⟩ := Option.bind_eq_some_iff.1 ho4
      split at ho5
      · rename_i hcond
        simp only [Bool.and_eq_true, decide_eq_true_eq] at hcond
        simp only [Option.some.injEq, Prod.mk.injEq] at ho5
        obtain ⟨rfl, rfl⟩ := ho5
        refine ⟨rfl, ?_⟩
        obtain ⟨kd, z, hv, h0, h1, h2, h3⟩ := index_of hk hri
        generalize hvx : act.eval x = v at hrx
        cases hrx with
        | nil a c => simp at h3
        | sl ad n c' sz' _ fv h0' hn hc' hl hm hr =>
          have hsz' : sz' = sz := by have := hl c (List.mem_of_getElem? hc); omega
          subst hsz'; subst hn
          refine ⟨_, run ad _ c' kd z hvx hv h0 h1, ?_⟩
          rw [h2]
          refine .ip _ _ (fun j => fv k j) (fun j x hx => ?_) (fun j x hx => hr k c j x hc hx)
          rw [add_add, add_block]
          exact hm k c j x hc hx
      · cases ho5
    · rename_i og g lo n
      obtain ⟨k, hk, ho4⟩ := Option.bind_eq_some_iff.1 ho3
      obtain ⟨b, s', tot, c, hA, hc, ht, hv⟩ := hrx.hs_inv
      obtain ⟨kd, z, hvi, h0, h1, h2, h3⟩ := index_of hk hri
      have hrun := run _ _ _ _ _ hv hvi h0 h1
      have fin : s' = sz → some (AVal.hp og g (lo + k) 0, (none : Option Mem)) = some (r, m1) → m1 = none ∧ ∃ v, (execOp act.eval o).run P w = .ok (.value v) w ∧ Rep A (Own A s.m F) w v r := by
        rintro rfl e
        simp only [Option.some.injEq, Prod.mk.injEq] at e
        obtain ⟨rfl, rfl⟩ := e
        refine ⟨rfl, _, hrun, ?_⟩
        rw [h2, add_cells, show lo * s' + k * s' = (lo + k) * s' + 0 by rw [Nat.add_mul]; rfl]
        exact .hp og g (lo + k) 0 b s' tot hA
      clear ho3
      try dsimp only at ho4
      split at ho4
      · rename_i hg
        split at ho4
        · rename_i es hst
          split at ho4
          · rename_i hs; exact fin ((obj_sz h hg hA (.inl ⟨_, hst⟩)).trans hs) ho4
          · cases ho4
        · rename_i es hst
          split at ho4
          · rename_i hs; exact fin ((obj_sz h hg hA (.inr ⟨_, hst⟩)).trans hs) ho4
          · cases ho4
        · cases ho4
      · cases ho4
    · cases ho3
  · rename_i len e hu
    obtain ⟨sz, hsz, ho3⟩ := Option.bind_eq_some_iff.1 ho2
    clear ho2
    have hsize := info_of hE hsz w
    split at ho3
    · cases ho3
    have run : ∀ (ad : Addr) (kd : IntKind) (z : Int), act.eval x = .pointer (some ad) → act.eval i = .int kd z → 0 ≤ z → z < len → (execOp act.eval o).run P w = .ok (.value (.pointer (some (ad.add (z.toNat * sz))))) w := by
      intro ad kd z he hi h0 h1
      simp [execOp, hop, Instr.indexAt, Instr.sureAddr, asIntOf, run_underlying (hE.under _ _ hu), he, hi, h0, h1, hsize]
    split at ho3
    · rename_i og g j off
      obtain ⟨k, hk, ho4⟩ := Option.map_eq_some_iff.1 ho3
      simp only [Prod.mk.injEq] at ho4
      obtain ⟨rfl, rfl⟩ := ho4
      refine ⟨rfl, ?_⟩
      obtain ⟨b, s', tot, hA, hv⟩ := hrx.hp_inv
      obtain ⟨kd, z, hvi, h0, h1, h2, h3⟩ := index_of hk hri
      refine ⟨_, run _ _ _ hv hvi h0 h1, ?_⟩
      rw [h2, add_cells, Nat.add_assoc]
      exact .hp og g j (off + k * sz) b s' tot hA
    · rename_i cs
      obtain ⟨k, hk, ho4⟩ := Option.map_eq_some_iff.1 ho3
      simp only [Prod.mk.injEq] at ho4
      obtain ⟨rfl, rfl⟩ := ho4
      refine ⟨rfl, ?_⟩
      obtain ⟨ad, hv⟩ := hrx.ip_inv
      obtain ⟨kd, z, hvi, h0, h1, h2, h3⟩ := index_of hk hri
      refine ⟨_, run _ _ _ hv hvi h0 h1, ?_⟩
      rw [hv] at hrx
      rw [h2]
      exact ip_drop hrx _
    · cases ho3
  · cases ho2

theorem frz_n {m : Mem} {a a' : AVal} {m1 : Option Mem} (h : frz base m a = some (a', m1)) : (m1.getD m).gs.n = m.gs.n := by
  unfold frz at h
  split at h
  · cases h; rfl
  · simp only at h
    split at h
    · split at h
      · split at h
        · cases h; rfl
        · cases h
      · split at h
        · cases h; exact put_n _ _ _
        · cases h
      · cases h
    · cases h
  · split at h
    · cases h; rfl
    · cases h
theorem frzL_n : ∀ {l : List AVal} {m : Mem} {l' : List AVal} {m1 : Option Mem}, frzL base m l = some (l', m1) → (m1.getD m).gs.n = m.gs.n
  | [], m, l', m1, h => by simp only [frzL, Option.some.injEq, Prod.mk.injEq] at h; rw [← h.2]; rfl
  | a :: l, m, l', m1, h => by
    simp only [frzL] at h
    split at h
    · cases h
    · rename_i hf
      split at h
      · cases h
      · rename_i hl
        simp only [Option.some.injEq, Prod.mk.injEq] at h
        rw [← h.2, orM_getD, frzL_n hl, frz_n hf]
theorem elems_n {sz : Nat} : ∀ {l : List (Nat × AVal)} {m : Mem} {k : Nat} {es : List (List AVal)} {m1 : Option Mem}, aElems base sz m k l = some (es, m1) → (m1.getD m).gs.n = m.gs.n
  | [], m, k, es, m1, h => by simp only [aElems, Option.some.injEq, Prod.mk.injEq] at h; rw [← h.2]; rfl
  | (i, a) :: l, m, k, es, m1, h => by
    simp only [aElems] at h
    split at h
    · split at h
      · cases h
      · rename_i hf
        split at h
        · cases h
        · rename_i hl
          simp only [Option.some.injEq, Prod.mk.injEq] at h
          rw [← h.2, orM_getD, elems_n hl, frzL_n hf]
    · cases h

theorem aMaxL_spec {X : Nat → Prop} : ∀ (l : List AVal) (vs : List Value) (k : IntKind) (a n : Int), aMaxL a l = some n → RepL A X w vs l → (vs.foldlM Builtin.max2 (.int k a)).run P w = .ok (.int k n) w
  | [], vs, k, a, n, h, hr => by
    have : vs = [] := List.eq_nil_of_length_eq_zero (by simpa using hr.1)
    subst this
    simp only [aMaxL, Option.some.injEq] at h
    subst h; simp
  | x :: l, [], k, a, n, h, hr => by have := hr.1; simp at this
  | x :: l, v :: vs, k, a, n, h, hr => by
    unfold aMaxL at h
    split at h
    · rename_i e; cases e
    · rename_i e
      cases e
      have hv := hr.head.raw_inv
      subst hv
      rw [List.foldlM_cons]
      simp only [Builtin.max2, Sem.run_bind, Sem.run_pure, Result.andThen_ok]
      exact aMaxL_spec l vs k _ n h hr.tail
    · cases h
theorem aMinL_spec {X : Nat → Prop} : ∀ (l : List AVal) (vs : List Value) (k : IntKind) (a n : Int), aMinL a l = some n → RepL A X w vs l → (vs.foldlM Builtin.min2 (.int k a)).run P w = .ok (.int k n) w
  | [], vs, k, a, n, h, hr => by
    have : vs = [] := List.eq_nil_of_length_eq_zero (by simpa using hr.1)
    subst this
    simp only [aMinL, Option.some.injEq] at h
    subst h; simp
  | x :: l, [], k, a, n, h, hr => by have := hr.1; simp at this
  | x :: l, v :: vs, k, a, n, h, hr => by
    unfold aMinL at h
    split at h
    · rename_i e; cases e
    · rename_i e
      cases e
      have hv := hr.head.raw_inv
      subst hv
      rw [List.foldlM_cons]
      simp only [Builtin.min2, Sem.run_bind, Sem.run_pure, Result.andThen_ok]
      exact aMinL_spec l vs k _ n h hr.tail
    · cases h
end
end Go.Abs
