/-
  THE ABSTRACT INTERPRETER: every operation that is no call. By this seat's session.
-/
import Derived.Test.YtjcgaelibiiiiaaDoorAbsOpF
import Derived.Laws.MakeOwn
set_option linter.unusedVariables false
set_option linter.unusedSimpArgs false
namespace Go.Abs

section
variable {P : Program} {env : Env} {base : Nat} {F : Nat → Prop} {H0 N0 : Nat} {A : Gh} {w : World} {s : St}

theorem repP_eval {act : Act} {X : Nat → Prop} {l : List (Nat × Operand)} {as : List (Nat × AVal)} (h : RepP A X w (l.map fun (i, x) => (i, act.eval x)) as) : RepP A X w (l.map fun x => (x.1, act.eval x.2)) as := h

theorem aOp_spec (hE : EnvOK P env) (h : WOK env A F w s.m H0 N0) (hbase : base ≤ s.m.gs.n) {act : Act} (hfr : ∀ t, Rep A (Own A s.m F) w (act.tmps.getD t undef) (s.get t)) {f : FuncId} {o : Oper} {r : AVal} {m1 : Option Mem} (ho : aOp env f base o s = some (r, m1)) :
    OpRes env base F H0 N0 A s.m w ((execOp act.eval o).run P w) r m1 := by
  cases hop : o.op
  case move x =>
    simp only [aOp, hop, Option.map_eq_some_iff, Prod.mk.injEq] at ho
    obtain ⟨a, ha, rfl, rfl⟩ := ho
    exact .same h (by simp [execOp, hop] <;> rfl) (eval_spec h hfr ha)
  case assign x =>
    simp only [aOp, hop, Option.map_eq_some_iff, Prod.mk.injEq] at ho
    obtain ⟨a, ha, rfl, rfl⟩ := ho
    exact .same h (by simp [execOp, hop] <;> rfl) (eval_spec h hfr ha)
  case pick c x y =>
    simp only [aOp, hop] at ho
    obtain ⟨ac, hc, ho1⟩ := Option.bind_eq_some_iff.1 ho
    clear ho
    split at ho1
    · rename_i t
      obtain ⟨a, ha, ho2⟩ := Option.bind_eq_some_iff.1 ho1
      simp only [Option.map_eq_some_iff, Prod.mk.injEq] at ho2
      obtain ⟨b, hb, rfl, rfl⟩ := ho2
      have hv := (eval_spec h hfr hc).raw_inv
      refine .same (v := if t then act.eval x else act.eval y) h (by simp [execOp, hop, hv, asBool]) ?_
      cases t
      · exact eval_spec h hfr hb
      · exact eval_spec h hfr ha
    · cases ho1
  case alloc t =>
    simp only [aOp, hop] at ho
    obtain ⟨z, hz, ho1⟩ := Option.bind_eq_some_iff.1 ho
    obtain ⟨n, hn, ho2⟩ := Option.bind_eq_some_iff.1 ho1
    clear ho ho1
    split at ho2
    · rename_i hc
      simp only [Bool.and_eq_true, decide_eq_true_eq] at hc
      obtain ⟨zv, hrun, hrep, hone⟩ := zero_of hE hz
      generalize hno : newObj (env.site f (o.dst.getD 0)) (4 * (o.dst.getD 0)) s.m (.box z) = no at ho2
      obtain ⟨og, g, m'⟩ := no
      simp only [Option.some.injEq, Prod.mk.injEq] at ho2
      obtain ⟨rfl, rfl⟩ := ho2
      have hzl := (hrep A (Own A s.m F) w).1
      simp at hzl
      have hcell : z.all AVal.isCell = true ∧ z.all AVal.shared = true := hE.zshared t z hz
      obtain ⟨A', hA', hW, hX⟩ := h.new base hno hbase zv.cells t w rfl ⟨rfl, rfl, rfl⟩ n rfl ⟨hc.1, by omega, hrep _ _ _, hcell.1, fun _ => hcell.2⟩
      refine ⟨.pointer (some ⟨w.heap.size, 0, none⟩), _, A', .inl ?_, hW, hX, ?_⟩
      · simp [execOp, hop, Instr.alloc, hrun, newVar, newRow, newObj, Sem.run] <;> rfl
      · simpa using Rep.hp (A := A') (X := Own A' m' F) (w := w.alloc (.cells zv.cells t)) og g 0 0 w.heap.size n zv.cells.size hA'
    · cases ho2
  case box t x =>
    simp only [aOp, hop] at ho
    obtain ⟨a, ha, ho1⟩ := Option.bind_eq_some_iff.1 ho
    obtain ⟨n, hn, ho2⟩ := Option.bind_eq_some_iff.1 ho1
    clear ho ho1
    split at ho2
    · rename_i hc
      simp only [Bool.and_eq_true, decide_eq_true_eq, Bool.or_eq_true, Bool.not_eq_true'] at hc
      obtain ⟨⟨⟨hc1, hc2⟩, hc3⟩, hc4⟩ := hc
      generalize hno : newObj (env.site f (o.dst.getD 0)) (4 * (o.dst.getD 0)) s.m (.box a.cells) = no at ho2
      obtain ⟨og, g, m'⟩ := no
      simp only [Option.some.injEq, Prod.mk.injEq] at ho2
      obtain ⟨rfl, rfl⟩ := ho2
      obtain ⟨hvc, hone⟩ := (eval_spec h hfr ha).cells hc3
      have hvl := hvc.1
      simp at hvl
      obtain ⟨A', hA', hW, hX⟩ := h.new base hno hbase (act.eval x).cells t w rfl ⟨rfl, rfl, rfl⟩ n rfl ⟨hc1, by omega, hvc, hc3, fun e => hc4.resolve_left (by rw [e]; simp)⟩
      refine ⟨.pointer (some ⟨w.heap.size, 0, none⟩), _, A', .inl ?_, hW, hX, ?_⟩
      · simp [execOp, hop, Instr.box, newVar, newRow, newObj, Sem.run] <;> rfl
      · simpa using Rep.hp (A := A') (X := Own A' m' F) (w := w.alloc (.cells (act.eval x).cells t)) og g 0 0 w.heap.size n _ hA'
    · cases ho2
  case build t parts =>
    simp only [aOp, hop] at ho
    obtain ⟨ps, hps, ho1⟩ := Option.bind_eq_some_iff.1 ho
    obtain ⟨z, hz, ho2⟩ := Option.bind_eq_some_iff.1 ho1
    clear ho ho1
    split at ho2
    · rename_i hag
      simp only [Option.map_eq_some_iff, Prod.mk.injEq] at ho2
      obtain ⟨cs, hf, rfl, rfl⟩ := ho2
      have hrp := parts_spec h hfr hps
      obtain ⟨it, zv, hit, hzv, hrep, hone⟩ := hE.zero t z hz
      have key : ∀ place', (∀ i x, placeIn env t i = some x → place' i = some x) → (∀ cells', Instr.fill place' zv.cells (parts.toList.map fun (i, x) => (i, act.eval x)) = some cells' → P.built t (parts.map fun (i, x) => (i, act.eval x)).toList = some cells') → OpRes env base F H0 N0 A s.m w ((execOp act.eval o).run P w) (.agg cs) none := by
        intro place' hp hb
        obtain ⟨cells', hfill, hr2⟩ := fill_spec hp hrp (hrep A _ w) hf
        have hbuilt := hb cells' hfill
        refine .same (v := .agg cells') h ?_ (.agg cells' cs (by simpa using hr2.1) (fun j x hx => by simpa using hr2.2 j x hx))
        have := run_build (P := P) w t (parts.map fun (i, x) => (i, act.eval x)) cells' hbuilt
        simp only [execOp, hop]
        simp [this]
      unfold Env.isAgg at hag
      split at hag
      · rename_i fs hu
        obtain ⟨places, hpl⟩ := hE.fields t fs hu
        refine key (places.toArray[·]?) (fun i x hx => ?_) (fun cells' hfill => ?_)
        · simp only [placeIn, hu] at hx
          split at hx
          · rename_i fld hfld
            obtain ⟨n, hn, rfl⟩ := Option.map_eq_some_iff.1 hx
            obtain ⟨i', hi', hsz'⟩ := hE.size _ _ hn
            obtain ⟨_, hget⟩ := mapM_get hpl
            obtain ⟨y, hy, hfy⟩ := hget i fld (by simpa using hfld)
            rw [hi'] at hfy
            simp only [Option.map_some, Option.some.injEq] at hfy
            subst hfy
            simp [hy, hsz']
          · cases hx
        · unfold Program.built
          rw [hit, hE.under _ _ hu]
          simp only [hzv, hpl]
          simpa using hfill
      · rename_i len e hu
        have hes : ∀ i x, placeIn env t i = some x → ∃ n, env.size e = some n ∧ x = (i * n, n) := by
          intro i x hx
          simp only [placeIn, hu] at hx
          obtain ⟨n, hn, rfl⟩ := Option.map_eq_some_iff.1 hx
          exact ⟨n, hn, rfl⟩
        obtain ⟨ie, hie⟩ := hE.arrays t len e hu
        refine key (fun i => some (i * ie.size, ie.size)) (fun i x hx => ?_) (fun cells' hfill => ?_)
        · obtain ⟨n, hn, rfl⟩ := hes i x hx
          obtain ⟨i', hi', hsz'⟩ := hE.size _ _ hn
          rw [hie] at hi'
          cases hi'
          rw [hsz']
        · unfold Program.built
          rw [hit, hE.under _ _ hu]
          simp only [hzv, hie]
          simpa using hfill
      · cases hag
      · cases hag
    · cases ho2
  case buildSlice t len parts =>
    simp only [aOp, hop] at ho
    obtain ⟨e, he, ho1⟩ := Option.bind_eq_some_iff.1 ho
    obtain ⟨sz, hsz, ho2⟩ := Option.bind_eq_some_iff.1 ho1
    obtain ⟨z, hz, ho3⟩ := Option.bind_eq_some_iff.1 ho2
    obtain ⟨ps, hps, ho4⟩ := Option.bind_eq_some_iff.1 ho3
    clear ho ho1 ho2 ho3
    have hu : P.underlying t = some (.slice e) := by
      unfold Env.elemOf at he
      split at he
      · rename_i hu; cases he; exact hE.under _ _ hu
      · cases he
    obtain ⟨ie, zv, hie, hzv, hrep, hone⟩ := hE.zero e z hz
    obtain ⟨ie', hie', hsz'⟩ := hE.size _ _ hsz
    rw [hie] at hie'
    cases hie'
    have hrp := parts_spec h hfr hps
    split at ho4
    · rename_i hl0
      subst hl0
      split at ho4
      · rename_i hemp
        simp only [Option.some.injEq, Prod.mk.injEq] at ho4
        obtain ⟨rfl, rfl⟩ := ho4
        have hpe : parts = #[] := by
          have : ps = [] := by simpa using hemp
          subst this
          have := (mapM_get hps).1
          simp at this
          exact Array.eq_empty_of_size_eq_zero (by omega)
        subst hpe
        obtain ⟨hW, hX⟩ := h.alloc base (.cells #[] e)
        refine ⟨.slice (some ⟨w.heap.size, 0, none⟩) 0 0, w.alloc (.cells #[] e), A, .inl ?_, hW, hX, .e0 _⟩
        have er : ∀ f : Nat → Value, (Array.range 0).map f = #[] := fun f => by apply Array.eq_empty_of_size_eq_zero; simp
        simp [execOp, hop, Instr.buildSlice, run_underlying hu, sizeOf, typeInfo, hie, Instr.fill, newRow, newObj, Sem.run, er] <;> rfl
      · cases ho4
    · rename_i hl0
      split at ho4
      · cases ho4
      rename_i hchk
      simp only [Bool.or_eq_true, decide_eq_true_eq, bne_iff_ne, not_or, Decidable.not_not, gt_iff_lt] at hchk
      obtain ⟨⟨⟨hs0, hzl⟩, hpl⟩, hsmall⟩ := hchk
      obtain ⟨⟨es, m2⟩, hel, ho5⟩ := Option.map_eq_some_iff.1 ho4
      clear ho4
      obtain ⟨k1, k2, k3, k4, k5, k6, k7⟩ := elemsB_spec base sz _ ps 0 s.m es m2 h hrp hel
      have hpl' : parts.toList.length = len := by have := (mapM_get hps).1; omega
      have h0 : 0 < sz := by omega
      have hzs : zv.cells.size = sz := by have := (hrep A (Own A s.m F) w).1; simp at this; omega
      generalize hvs : (parts.toList.map fun (x : Nat × Operand) => (x.1, act.eval x.2)) = vs at k3 k6 k7
      have hvl : vs.length = len := by rw [← hvs]; simpa using hpl'
      have hfill := fill_all sz vs 0 ((Array.range (len * sz)).map (zv.cells[· % zv.cells.size]!)) (fun j x hx => k6 j x hx) (by simp [hvl])
      have hrun := run_buildSlice (P := P) w t e len (parts.map fun (i, x) => (i, act.eval x)) ((vs.map fun x => x.2.cells.toList).flatten).toArray ie zv hu hie hzv (by rw [hsz']; simpa using hsmall) (by rw [hsz']; exact Nat.mul_ne_zero hl0 hs0)
        (by rw [hsz', Array.toList_map]; rw [show (parts.toList.map fun x => match x with | (i, x) => (i, act.eval x)) = vs from hvs]; simpa using hfill)
      have hexec : (execOp act.eval o).run P w = .ok (.value (.slice (some ⟨w.heap.size, 0, none⟩) len len)) (w.alloc (.cells ((vs.map fun x => x.2.cells.toList).flatten).toArray e)) := by
        simp only [execOp, hop]
        simp [hrun]
      have hrow : RowRep A (Own A (m2.getD s.m) F) w ((vs.map fun x => x.2.cells.toList).flatten).toArray sz es := by
        refine .ofFlat h0 k4 ?_ (fun q x hx => ⟨k5 x (List.mem_of_getElem? hx), ?_⟩)
        · have := k3.1
          rw [flatten_len es k4] at this
          simp only [List.size_toArray]
          omega
        · have hq : q < (vs.map fun x => x.2.cells.toList).flatten.length := by rw [k3.1]; exact (List.getElem?_eq_some_iff.1 hx).1
          refine ⟨_, by rw [List.getElem?_toArray, List.getElem?_eq_getElem hq], ?_⟩
          have := k3.2 q x hx
          simpa [List.getD_eq_getElem?_getD, List.getElem?_eq_getElem hq] using this
      have hel' : es.length = len := by omega
      have harr : ((vs.map fun x => x.2.cells.toList).flatten).toArray.size = len * sz := by
        have := k3.1
        rw [flatten_len es k4, hel'] at this
        simpa using this
      split at ho5
      · generalize hno : newObj true (4 * (o.dst.getD 0)) (m2.getD s.m) (.row sz es) = no at ho5
        obtain ⟨og, g, m'⟩ := no
        simp only [Prod.mk.injEq] at ho5
        obtain ⟨rfl, rfl⟩ := ho5
        have hbase2 : base ≤ (m2.getD s.m).gs.n := by
          rw [elems_n hel]; exact hbase
        obtain ⟨A', hA', hW, hX⟩ := k1.new base hno hbase2 ((vs.map fun x => x.2.cells.toList).flatten).toArray e w rfl ⟨rfl, rfl, rfl⟩ sz rfl ⟨rfl, hrow⟩
        refine ⟨_, _, A', .inl hexec, hW, k2.trans hX, ?_⟩
        have := Rep.hs (A := A') (X := Own A' m' F) (w := w.alloc (.cells ((vs.map fun x => x.2.cells.toList).flatten).toArray e)) og g 0 len len w.heap.size sz _ hA' (Nat.le_refl _) (by rw [harr, Nat.zero_add]; exact Nat.le_refl _)
        rw [hel']
        simpa using this
      · simp only [Prod.mk.injEq] at ho5
        obtain ⟨rfl, rfl⟩ := ho5
        obtain ⟨hW, hX⟩ := k1.alloc base (.cells ((vs.map fun x => x.2.cells.toList).flatten).toArray e)
        refine ⟨_, _, A, .inl hexec, hW, k2.trans hX, ?_⟩
        have hr' := hrow.mono (.refl A) (fun b hb hx => hX.heap b hb (fun e1 => hx e1.own)) hX.own
        have := hr'.slice (lo := 0) (n := len) (c := len) (heap_alloc_new w (.cells ((vs.map fun x => x.2.cells.toList).flatten).toArray e)) (fun hx => by have := k1.own_lt hx; omega) (by omega) (Nat.le_refl _)
        rw [List.drop_zero, ← hel', List.take_length] at this
        rw [hel'] at this
        simpa using this
  case load t x =>
    simp only [aOp, hop] at ho
    obtain ⟨a, ha, ho1⟩ := Option.bind_eq_some_iff.1 ho
    obtain ⟨n, hn, ho2⟩ := Option.bind_eq_some_iff.1 ho1
    clear ho ho1
    have hra := eval_spec h hfr ha
    split at ho2
    · obtain ⟨cs, hs, ho3⟩ := Option.bind_eq_some_iff.1 ho2
      simp only [Option.map_eq_some_iff, Prod.mk.injEq] at ho3
      obtain ⟨r', hp, rfl, rfl⟩ := ho3
      obtain ⟨ad, hv⟩ := hra.ip_inv
      rw [hv] at hra
      obtain ⟨us, hc, hr, hl⟩ := ip_cells hra hs
      obtain ⟨v, hrun, hrep⟩ := pack_load hE hn hp hr hl hc
      exact .same h (by simp [execOp, hop, Instr.loadAt, hv, Instr.sureAddr, hrun]) hrep
    · rename_i og g i off
      obtain ⟨cs, hs, ho3⟩ := Option.bind_eq_some_iff.1 ho2
      simp only [Option.map_eq_some_iff, Prod.mk.injEq] at ho3
      obtain ⟨r', hp, rfl, rfl⟩ := ho3
      obtain ⟨b, sz, tot, hA, hv⟩ := hra.hp_inv
      obtain ⟨us, hc, hr, hl⟩ := read_spec h hs hA
      obtain ⟨v, hrun, hrep⟩ := pack_load hE hn hp hr hl hc
      exact .same h (by simp [execOp, hop, Instr.loadAt, hv, Instr.sureAddr, hrun]) hrep
    · cases ho2
  case store t x y =>
    simp only [aOp, hop] at ho
    obtain ⟨a, ha, ho1⟩ := Option.bind_eq_some_iff.1 ho
    obtain ⟨c, hc, ho2⟩ := Option.bind_eq_some_iff.1 ho1
    obtain ⟨n, hn, ho3⟩ := Option.bind_eq_some_iff.1 ho2
    clear ho ho1 ho2
    split at ho3
    · rename_i og g i off
      split at ho3
      · rename_i hlen
        simp only [Option.map_eq_some_iff, Prod.mk.injEq] at ho3
        obtain ⟨m', hw, rfl, rfl⟩ := ho3
        obtain ⟨b, sz, tot, hA, hv⟩ := (eval_spec h hfr ha).hp_inv
        obtain ⟨hvc, hone⟩ := (eval_spec h hfr hc).cells (write_isCell hw)
        obtain ⟨w', hrun, hW, hX⟩ := write_spec (P := P) h base hw hA hvc
        refine ⟨undef, w', A, .inr ⟨?_, rfl⟩, hW, hX, .undef _⟩
        have hsz := info_of hE hn w
        have hvl := hvc.1
        simp at hvl
        simp [execOp, hop, Instr.storeAt, hv, Instr.sureAddr, storeVar, hsz, show (act.eval y).cells.size = n by omega, hrun]
      · cases ho3
    · cases ho3
  case nilCheck x =>
    simp only [aOp, hop] at ho
    obtain ⟨a, ha, ho1⟩ := Option.bind_eq_some_iff.1 ho
    clear ho
    have hra := eval_spec h hfr ha
    split at ho1
    · simp only [Option.some.injEq, Prod.mk.injEq] at ho1
      obtain ⟨rfl, rfl⟩ := ho1
      obtain ⟨b, sz, tot, hA, hv⟩ := hra.hp_inv
      exact .same h (by simp [execOp, hop, hv] <;> rfl) (hv ▸ hra)
    · simp only [Option.some.injEq, Prod.mk.injEq] at ho1
      obtain ⟨rfl, rfl⟩ := ho1
      obtain ⟨ad, hv⟩ := hra.ip_inv
      exact .same h (by simp [execOp, hop, hv] <;> rfl) (hv ▸ hra)
    · simp only [Option.some.injEq, Prod.mk.injEq] at ho1
      obtain ⟨rfl, rfl⟩ := ho1
      obtain ⟨fs, cs, hv, _⟩ := hra.clo_inv
      exact .same h (by simp [execOp, hop, hv] <;> rfl) (hv ▸ hra)
    · cases ho1
  case binOp op t x y yt =>
    simp only [aOp, hop] at ho
    obtain ⟨a, ha, ho1⟩ := Option.bind_eq_some_iff.1 ho
    clear ho
    split at ho1
    · rename_i r' hr
      simp only [Option.some.injEq, Prod.mk.injEq] at ho1
      obtain ⟨rfl, rfl⟩ := ho1
      unfold nilCmpO at hr
      split at hr
      · obtain ⟨v, hrun, hrep⟩ := nilCmp_spec hE hr x (eval_spec h hfr ha)
        refine .same h ?_ hrep
        simp only [execOp, hop]
        simp only [Sem.run_bind] at hrun ⊢
        simp only [show ∀ c, act.eval (Operand.const c) = c from fun _ => rfl]
        simp [hrun]
      · cases hr
    · obtain ⟨b, hb, ho2⟩ := Option.bind_eq_some_iff.1 ho1
      clear ho1
      simp only [Option.map_eq_some_iff, Prod.mk.injEq] at ho2
      obtain ⟨r', hr, rfl, rfl⟩ := ho2
      obtain ⟨v, hrun, hrep⟩ := bin_spec hE hr x y (eval_spec h hfr ha) (eval_spec h hfr hb)
      refine .same h ?_ hrep
      simp only [execOp, hop]
      simp only [Sem.run_bind] at hrun ⊢
      simp [hrun]
  case unOp op t x =>
    simp only [aOp, hop] at ho
    obtain ⟨a, ha, ho1⟩ := Option.bind_eq_some_iff.1 ho
    clear ho
    simp only [Option.map_eq_some_iff, Prod.mk.injEq] at ho1
    obtain ⟨r', hr, rfl, rfl⟩ := ho1
    unfold aUn at hr
    split at hr
    · cases hr
      have hv := (eval_spec h hfr ha).raw_inv
      exact .same h (by simp [execOp, hop, hv, Op.unary] <;> rfl) (.raw _)
    · cases hr
      have hv := (eval_spec h hfr ha).raw_inv
      exact .same h (by simp [execOp, hop, hv, Op.unary, Op.intArith] <;> rfl) (.raw _)
    · cases hr
  case convert src dst x =>
    simp only [aOp, hop] at ho
    obtain ⟨a, ha, ho1⟩ := Option.bind_eq_some_iff.1 ho
    clear ho
    simp only [Option.map_eq_some_iff, Prod.mk.injEq] at ho1
    obtain ⟨r', hr, rfl, rfl⟩ := ho1
    unfold aConvert at hr
    split at hr
    · rename_i k n h1 h2
      cases hr
      have hv := (eval_spec h hfr ha).raw_inv
      refine .same h ?_ (.raw _)
      simp [execOp, hop, hv, convert, run_underlying (hE.under _ _ h1), run_underlying (hE.under _ _ h2), Conv.intToInt]
    · cases hr
  case makeInterface t x =>
    simp only [aOp, hop] at ho
    obtain ⟨a, ha, ho1⟩ := Option.bind_eq_some_iff.1 ho
    clear ho
    split at ho1
    · cases ho1
    · rename_i d hni hu
      simp only [Option.some.injEq, Prod.mk.injEq] at ho1
      obtain ⟨rfl, rfl⟩ := ho1
      refine .same h ?_ (.iface t _ _ (eval_spec h hfr ha))
      have : (Instr.makeInterface t (act.eval x)).run P w = .ok (.iface t (act.eval x)) w := by
        unfold Instr.makeInterface
        simp only [Sem.run_bind, run_underlying (hE.under _ _ hu), Result.andThen_ok]
        cases d <;> first | rfl | exact absurd rfl (hni _)
      simp [execOp, hop, this]
    · cases ho1
  case makeFunc fn first captured =>
    simp only [aOp, hop] at ho
    split at ho
    · rename_i g
      obtain ⟨fs, hfs, ho1⟩ := Option.bind_eq_some_iff.1 ho
      obtain ⟨cs, hcs, ho2⟩ := Option.bind_eq_some_iff.1 ho1
      clear ho ho1
      split at ho2
      · simp only [Option.some.injEq, Prod.mk.injEq] at ho2
        obtain ⟨rfl, rfl⟩ := ho2
        have h1 := evals_spec h hfr hfs
        have h2 := evals_spec h hfr hcs
        refine .same h (by simp [execOp, hop, Instr.makeFunc] <;> rfl) (.clo g (first.map act.eval) (captured.map act.eval) fs cs (by simpa using h1.1) (by simpa using h2.1) (fun j x hx => by simpa using h1.2 j x hx) (fun j x hx => by simpa using h2.2 j x hx))
      · cases ho2
    · cases ho
  case makeSlice t l c =>
    simp only [aOp, hop] at ho
    obtain ⟨e, he, ho1⟩ := Option.bind_eq_some_iff.1 ho
    obtain ⟨sz, hsz, ho2⟩ := Option.bind_eq_some_iff.1 ho1
    obtain ⟨z, hz, ho3⟩ := Option.bind_eq_some_iff.1 ho2
    obtain ⟨by_, hby, ho4⟩ := Option.bind_eq_some_iff.1 ho3
    obtain ⟨al, hal, ho5⟩ := Option.bind_eq_some_iff.1 ho4
    obtain ⟨ac, hac, ho6⟩ := Option.bind_eq_some_iff.1 ho5
    clear ho ho1 ho2 ho3 ho4 ho5
    have hu : P.underlying t = some (.slice e) := by
      unfold Env.elemOf at he
      split at he
      · rename_i hu; cases he; exact hE.under _ _ hu
      · cases he
    split at ho6
    · rename_i l' c'
      split at ho6
      · rename_i hc
        simp only [Bool.and_eq_true, decide_eq_true_eq] at hc
        obtain ⟨⟨⟨⟨⟨⟨hl0, hlc⟩, hcb⟩, h0⟩, hzl⟩, hzc⟩, hcm⟩ := hc
        obtain ⟨⟨z', m2⟩, hfz, ho7⟩ := Option.bind_eq_some_iff.1 ho6
        clear ho6
        split at ho7
        · cases ho7
        rename_i hm2
        obtain rfl : m2 = none := by simpa using hm2
        generalize hno : newObj (env.site f (o.dst.getD 0)) (4 * (o.dst.getD 0)) s.m (.row sz (List.replicate l'.toNat z')) = no at ho7
        obtain ⟨og, g, m'⟩ := no
        simp only [Option.some.injEq, Prod.mk.injEq] at ho7
        obtain ⟨rfl, rfl⟩ := ho7
        have hvl := (eval_spec h hfr hal).raw_inv
        have hvc := (eval_spec h hfr hac).raw_inv
        obtain ⟨ie, zv, hie, hzv, hrep, hone⟩ := hE.zero e z hz
        obtain ⟨ie', hie', hsz'⟩ := hE.size _ _ hsz
        obtain ⟨ie'', hie'', hby'⟩ := hE.bytes _ _ hby
        rw [hie] at hie' hie''
        cases hie'; cases hie''
        obtain ⟨q1, q2, q3, q4⟩ := frzL_spec base zv.cells.toList z z' s.m none h (hrep _ _ _) hfz
        simp only [Option.getD_none] at q3
        have hzs : zv.cells.size = sz := by have := (hrep A (Own A s.m F) w).1; simp at this; omega
        have hz'l : z'.length = sz := by have := q3.1; simp at this; omega
        obtain ⟨cn, rfl⟩ := Int.eq_ofNat_of_zero_le (show 0 ≤ c' by omega)
        obtain ⟨ln, rfl⟩ := Int.eq_ofNat_of_zero_le hl0
        have hcb' : cn * ie.bytes ≤ 140737488355328 := by rw [hby']; simpa [maxBytes] using hcb
        have hlc' : ln ≤ cn := by omega
        have hcm' : (cn : Int) ≤ 9223372036854775807 := hcm
        let arr : Array Value := (Array.range (cn * sz)).map (zv.cells[· % zv.cells.size]!)
        have harr : arr.size = cn * sz := by simp [arr]
        have hrow : RowRep A (Own A s.m F) w arr sz (List.replicate ln z') := by
          refine ⟨h0, by rw [harr, List.length_replicate]; exact Nat.mul_le_mul_right _ hlc', fun x hx => by rw [List.eq_of_mem_replicate hx]; exact hz'l, fun i x j y hx hy => ?_⟩
          have hx' := List.mem_of_getElem? hx
          rw [List.eq_of_mem_replicate hx'] at hy
          have hi : i < ln := by have := (List.getElem?_eq_some_iff.1 hx).1; simpa using this
          have hj : j < sz := by rw [← hz'l]; exact (List.getElem?_eq_some_iff.1 hy).1
          refine ⟨all_get q4 hy, zv.cells.getD j undef, ?_, by simpa using q3.2 j y hy⟩
          have hlt : i * sz + j < cn * sz := by
            have := Nat.mul_le_mul_right sz (show i + 1 ≤ cn by omega)
            rw [Nat.add_mul] at this; omega
          have hmod : (i * sz + j) % sz = j := by rw [Nat.mul_comm, Nat.mul_add_mod, Nat.mod_eq_of_lt hj]
          simp [arr, hlt, hzs, hmod, hj]
        obtain ⟨A', hA', hW, hX⟩ := h.new base hno hbase arr e w rfl ⟨rfl, rfl, rfl⟩ sz rfl ⟨rfl, hrow⟩
        refine ⟨.slice (some ⟨w.heap.size, 0, none⟩) ln cn, w.alloc (.cells arr e), A', .inl ?_, hW, hX, ?_⟩
        · have hbig : (ie.bytes : Int) * (cn : Int) ≤ 281474976710656 := by
            rw [← Int.natCast_mul, Nat.mul_comm]
            omega
          have := run_make (P := P) w t e ie zv hu hie hzv .i64 .i64 (ln : Int) (cn : Int) (by omega) (by omega) hbig hcm'
          simp only [Int.toNat_natCast, hsz'] at this
          have e3 : madeCells zv.cells (cn * sz) = arr := rfl
          rw [e3] at this
          simp [execOp, hop, hvl, hvc, this]
        · have := Rep.hs (A := A') (X := Own A' m' F) (w := w.alloc (.cells arr e)) og g 0 ln cn w.heap.size sz _ hA' hlc' (by rw [harr, Nat.zero_add]; exact Nat.le_refl _)
          simpa using this
      · cases ho6
    · cases ho6
  case slice t x lo hi mx =>
    obtain ⟨rfl, v, hrun, hrep⟩ := slice_spec hE h hfr hop ho
    exact .same h hrun hrep
  case fieldAddr t x i =>
    simp only [aOp, hop] at ho
    obtain ⟨a, ha, ho1⟩ := Option.bind_eq_some_iff.1 ho
    obtain ⟨⟨off, n, ft⟩, hf, ho2⟩ := Option.bind_eq_some_iff.1 ho1
    clear ho ho1
    obtain ⟨fs, fld, hu, hfi, rfl, rfl, hsz, hn0⟩ := fieldOf_spec hE hf
    have hsize := info_of hE hsz w
    have run : ∀ ad, act.eval x = .pointer (some ad) → (execOp act.eval o).run P w = .ok (.value (.pointer (some (ad.add fld.offset)))) w := by
      intro ad hv
      have : ¬ n = 0 := by omega
      simp [execOp, hop, Instr.fieldAt, run_underlying hu, hfi, hv, Instr.sureAddr, fieldPlace, hsize, this]
    have hra := eval_spec h hfr ha
    simp only at ho2
    split at ho2
    · rename_i og g i' k
      simp only [Option.some.injEq, Prod.mk.injEq] at ho2
      obtain ⟨rfl, rfl⟩ := ho2
      obtain ⟨b, s', tot, hA, hv⟩ := hra.hp_inv
      refine .same h (run _ hv) ?_
      rw [add_cells, Nat.add_assoc]
      exact .hp og g i' (k + fld.offset) b s' tot hA
    · simp only [Option.some.injEq, Prod.mk.injEq] at ho2
      obtain ⟨rfl, rfl⟩ := ho2
      obtain ⟨ad, hv⟩ := hra.ip_inv
      rw [hv] at hra
      exact .same h (run _ hv) (ip_drop hra _)
    · cases ho2
  case field t x i =>
    simp only [aOp, hop] at ho
    obtain ⟨a, ha, ho1⟩ := Option.bind_eq_some_iff.1 ho
    obtain ⟨⟨off, n, ft⟩, hf, ho2⟩ := Option.bind_eq_some_iff.1 ho1
    clear ho ho1
    obtain ⟨fs, fld, hu, hfi, rfl, rfl, hsz, hn0⟩ := fieldOf_spec hE hf
    have hra := eval_spec h hfr ha
    simp only at ho2
    split at ho2
    · obtain ⟨cs, hs, ho3⟩ := Option.bind_eq_some_iff.1 ho2
      simp only [Option.map_eq_some_iff, Prod.mk.injEq] at ho3
      obtain ⟨r', hp, rfl, rfl⟩ := ho3
      obtain ⟨vs, hv, hvs, hvr⟩ := hra.agg_inv
      obtain ⟨v, hrun, hrep⟩ := pack_part hE hsz hs hp hvs hvr
      exact .same h (by simp [execOp, hop, Instr.field, run_underlying hu, hfi, hv, asAgg, hrun]) hrep
    · cases ho2
  case indexAddr t x i =>
    obtain ⟨rfl, v, hrun, hrep⟩ := indexAddr_spec hE h hfr hop ho
    exact .same h hrun hrep
  case index t x i =>
    simp only [aOp, hop] at ho
    obtain ⟨ax, hx, ho1⟩ := Option.bind_eq_some_iff.1 ho
    obtain ⟨ai, hi, ho2⟩ := Option.bind_eq_some_iff.1 ho1
    clear ho ho1
    split at ho2
    · rename_i len e cs hu
      obtain ⟨sz, hsz, ho3⟩ := Option.bind_eq_some_iff.1 ho2
      obtain ⟨k, hk, ho4⟩ := Option.bind_eq_some_iff.1 ho3
      obtain ⟨cs', hs, ho5⟩ := Option.bind_eq_some_iff.1 ho4
      simp only [Option.map_eq_some_iff, Prod.mk.injEq] at ho5
      obtain ⟨r', hp, rfl, rfl⟩ := ho5
      obtain ⟨kd, z, hvi, h0, h1, h2, h3⟩ := index_of hk (eval_spec h hfr hi)
      obtain ⟨vs, hv, hvs, hvr⟩ := (eval_spec h hfr hx).agg_inv
      obtain ⟨v, hrun, hrep⟩ := pack_part hE hsz hs hp hvs hvr
      refine .same h ?_ hrep
      simp [execOp, hop, Instr.index, asIntOf, hvi, run_underlying (hE.under _ _ hu), hv, h0, h1, info_of hE hsz w, h2, hrun]
    · rename_i b hu
      simp only [Option.map_eq_some_iff, Prod.mk.injEq] at ho2
      obtain ⟨c, hb, rfl, rfl⟩ := ho2
      unfold aByte at hb
      split at hb
      · rename_i k z
        split at hb
        · rename_i h0
          obtain ⟨ch, hch, rfl⟩ := Option.map_eq_some_iff.1 hb
          have hvi := (eval_spec h hfr hi).raw_inv
          have hv := (eval_spec h hfr hx).raw_inv
          refine .same h ?_ (.raw _)
          simp [execOp, hop, Instr.index, asIntOf, hvi, run_underlying (hE.under _ _ hu), hv, h0, hch]
        · cases hb
      · cases hb
    · cases ho2
  case extract t j =>
    simp only [aOp, hop] at ho
    obtain ⟨a, ha, ho1⟩ := Option.bind_eq_some_iff.1 ho
    clear ho
    split at ho1
    · simp only [Option.map_eq_some_iff, Prod.mk.injEq] at ho1
      obtain ⟨r', hr, rfl, rfl⟩ := ho1
      obtain ⟨vs, hv, hvs, hvr⟩ := (eval_spec h hfr ha).tup_inv
      have hj : j < vs.size := by rw [hvs]; exact (List.getElem?_eq_some_iff.1 hr).1
      have := hvr j r' hr
      refine .same (v := vs.getD j undef) h ?_ this
      simp [execOp, hop, hv, Instr.extract, hj]
    · cases ho1
  case call c =>
    simp only [aOp, hop] at ho
    split at ho
    · rename_i b hcal
      obtain ⟨as, has, ho1⟩ := Option.bind_eq_some_iff.1 ho
      clear ho
      have hra := evals_spec h hfr has
      have hres : (execOp act.eval o).run P w = (builtin b c.argTypes o.type (c.args.map fun | .const _ => true | _ => false) (c.args.map act.eval)).run P w := by
        simp [execOp, hop, resolve, hcal, invoke]
        rfl
      have hargs : (c.args.map act.eval).toList = c.args.toList.map act.eval := Array.toList_map
      rw [hres]
      have one : ∀ x : AVal, as = [x] → ∃ v, c.args.map act.eval = #[v] ∧ Rep A (Own A s.m F) w v x := by
        rintro x rfl
        obtain ⟨v, hv⟩ : ∃ v, c.args.toList.map act.eval = [v] := List.length_eq_one_iff.1 (by rw [hra.1]; rfl)
        rw [hv] at hra hargs
        exact ⟨v, by apply Array.ext'; simpa using hargs, hra.head⟩
      split at ho1
      · -- len
        rename_i x
        simp only [Option.map_eq_some_iff, Prod.mk.injEq] at ho1
        obtain ⟨r', hr, rfl, rfl⟩ := ho1
        obtain ⟨v, hav, hrv⟩ := one x rfl
        rw [hav]
        unfold aLen at hr
        have ty : ∀ d, (c.argTypes[0]?).bind env.under = some d → ∃ t, c.argTypes[0]? = some t ∧ P.underlying t = some d := by
          intro d hd
          obtain ⟨t, ht, hu⟩ := Option.bind_eq_some_iff.1 hd
          exact ⟨t, ht, hE.under _ _ hu⟩
        split at hr
        · rename_i hd
          cases hr
          obtain ⟨t, ht, hu⟩ := ty _ hd
          obtain ⟨a, rfl⟩ := hrv.e0_inv
          exact .same h (by simp [builtin, Builtin.len_, ht, run_underlying hu, goInt] <;> rfl) (.raw _)
        · rename_i hd
          cases hr
          obtain ⟨t, ht, hu⟩ := ty _ hd
          obtain ⟨a, cc, rfl, _⟩ := hrv.sl_inv
          exact .same h (by simp [builtin, Builtin.len_, ht, run_underlying hu, goInt] <;> rfl) (.raw _)
        · rename_i hd
          cases hr
          obtain ⟨t, ht, hu⟩ := ty _ hd
          obtain ⟨_, _, _, cc, _, _, _, rfl⟩ := hrv.hs_inv
          exact .same h (by simp [builtin, Builtin.len_, ht, run_underlying hu, goInt] <;> rfl) (.raw _)
        · rename_i hd
          cases hr
          obtain ⟨t, ht, hu⟩ := ty _ hd
          have := hrv.raw_inv
          subst this
          exact .same h (by simp [builtin, Builtin.len_, ht, run_underlying hu, goInt] <;> rfl) (.raw _)
        · rename_i hd
          cases hr
          obtain ⟨t, ht, hu⟩ := ty _ hd
          exact .same h (by simp [builtin, Builtin.len_, ht, run_underlying hu, goInt] <;> rfl) (.raw _)
        · cases hr
      · -- append
        rename_i x y
        obtain ⟨e, he, ho2⟩ := Option.bind_eq_some_iff.1 ho1
        clear ho1
        split at he
        · rename_i hat
          simp only [Bool.and_eq_true, decide_eq_true_eq, beq_iff_eq] at hat
          obtain ⟨hat1, hat2⟩ := hat
          have hu : P.underlying (c.argTypes.getD 0 0) = some (.slice e) := by
            unfold Env.elemOf at he
            split at he
            · rename_i hu; cases he; exact hE.under _ _ hu
            · cases he
          have hats : c.argTypes = #[c.argTypes.getD 0 0, c.argTypes.getD 0 0] := by
            apply Array.ext
            · simp [hat1]
            · intro i h1 h2
              simp at h2
              have h0 : 0 < c.argTypes.size := by omega
              have h1' : 1 < c.argTypes.size := by omega
              rcases (show i = 0 ∨ i = 1 by omega) with rfl | rfl
              · simp [h0]
              · simp [h0, h1'] at hat2 ⊢
                exact hat2.symm
          obtain ⟨v1, v2, hv⟩ : ∃ v1 v2, c.args.toList.map act.eval = [v1, v2] := by
            have := hra.1
            match hl : c.args.toList.map act.eval with
            | [] => rw [hl] at this; simp at this
            | [_] => rw [hl] at this; simp at this
            | [a, b] => exact ⟨a, b, rfl⟩
            | _ :: _ :: _ :: _ => rw [hl] at this; simp at this
          rw [hv] at hra hargs
          have hav : c.args.map act.eval = #[v1, v2] := by apply Array.ext'; simpa using hargs
          rw [hav]
          obtain ⟨v, w', A', hrun, hW, hX, hrep⟩ := append_spec (ty := o.type) hE h base hbase hu ho2 hra.head hra.tail.head
          refine ⟨v, w', A', .inl ?_, hW, hX, hrep⟩
          rw [hats]
          generalize c.argTypes.getD 0 0 = ty0 at hrun
          simp [builtin, hrun]
        · cases he
      · -- max
        rename_i k a l
        simp only [Option.map_eq_some_iff, Prod.mk.injEq] at ho1
        obtain ⟨n, hr, rfl, rfl⟩ := ho1
        obtain ⟨v, vs, hv⟩ : ∃ v vs, c.args.toList.map act.eval = v :: vs := by
          have := hra.1
          match hl : c.args.toList.map act.eval with
          | [] => rw [hl] at this; simp at this
          | a :: b => exact ⟨a, b, rfl⟩
        rw [hv] at hra hargs
        have hav : (c.args.map act.eval).toList = v :: vs := hargs
        have h1 := hra.head.raw_inv
        subst h1
        have := aMaxL_spec (P := P) l vs k a n hr hra.tail
        exact .same h (by simp only [builtin, Builtin.max_, hav]; simp [this]) (.raw _)
      · rename_i k a l
        simp only [Option.map_eq_some_iff, Prod.mk.injEq] at ho1
        obtain ⟨n, hr, rfl, rfl⟩ := ho1
        obtain ⟨v, vs, hv⟩ : ∃ v vs, c.args.toList.map act.eval = v :: vs := by
          have := hra.1
          match hl : c.args.toList.map act.eval with
          | [] => rw [hl] at this; simp at this
          | a :: b => exact ⟨a, b, rfl⟩
        rw [hv] at hra hargs
        have hav : (c.args.map act.eval).toList = v :: vs := hargs
        have h1 := hra.head.raw_inv
        subst h1
        have := aMinL_spec (P := P) l vs k a n hr hra.tail
        exact .same h (by simp only [builtin, Builtin.min_, hav]; simp [this]) (.raw _)
      · cases ho1
    · cases ho
  all_goals (simp [aOp, hop] at ho)
end
end Go.Abs
