/-
  THE ABSTRACT INTERPRETER: its environment held against a program; loads, stores, operators. By this seat's session.
-/
import Derived.Test.YtjcgaelibiiiiaaDoorAbsStep
import Derived.Calls
import Derived.Laws.Append
import Derived.Laws.CopyRow
import Derived.Laws.Rows
import Derived.Laws.Entries
set_option linter.unusedVariables false
set_option linter.unusedSimpArgs false
namespace Go.Abs

/-- A static look at the regions that draw: edges go back, guards are edges, temporaries are ordered. -/
def tmpsOf (o : Oper) : List Tmp := o.op.operands.toList.filterMap fun | .tmp t => some t | _ => none
def regionOk (ops : Array Oper) : Bool :=
  let b := befores ops
  (List.range ops.size).all fun j => match ops[j]? with
    | none => false
    | some o =>
      (o.after.toList.all fun e => !Region.binds .any e || decide (e.on < j)) &&
      (match o.guard with
        | none => true
        | some (g, _) => (b.getD j 0).testBit g && ((ops[g]?).bind (·.dst)).isSome) &&
      (List.range ops.size).all fun i => i == j || comparable b i j ||
        (match (ops[i]?).bind (·.dst) with
          | none => true
          | some d => !(tmpsOf o).contains d && o.dst != some d && (match o.guard with
            | none => true
            | some (g, _) => (ops[g]?).bind (·.dst) != some d))
def codeOk : Code → Bool
  | .region _ ops draw => !draw || regionOk ops
  | .seq a b => codeOk a && codeOk b
  | .cond _ a b => codeOk a && codeOk b
  | .block _ b => codeOk b
  | .loop b => codeOk b
  | .scope b => codeOk b
  | .rangeFunc _ _ a b => codeOk a && codeOk b
  | _ => true

structure EnvOK (P : Program) (env : Env) : Prop where
  funcs : ∀ f fn, env.funcs f = some fn → P.funcs[f]? = some fn ∧ (fn.name == "runtime.NumGoroutine") = false
  under : ∀ t d, env.under t = some d → P.underlying t = some d
  size : ∀ t n, env.size t = some n → ∃ i, P.info? t = some i ∧ i.size = n
  bytes : ∀ t n, env.bytes t = some n → ∃ i, P.info? t = some i ∧ i.bytes = n
  zero : ∀ t z, env.zero t = some z → ∃ i v, P.info? t = some i ∧ i.zero = some v ∧ (∀ A X w, RepL A X w v.cells.toList z) ∧ (∀ u ∈ v.cells.toList, u.oneCell' = true)
  eqs : ∀ t n, env.eqs t = some n → P.eqGuardType P.depth t = false ∧ ∀ (xs ys : Array Value) (w : World), xs.size = n → ys.size = n → (∀ u ∈ xs.toList, ∃ k z, u = .int k z) → (∀ u ∈ ys.toList, ∃ k z, u = .int k z) →
    ∀ r, eqCells (xs.toList.map AVal.raw) (ys.toList.map AVal.raw) = some r → (Op.equal t (.agg xs) (.agg ys)).run P w = .ok r w
  zshared : ∀ t z, env.zero t = some z → z.all AVal.isCell = true ∧ z.all AVal.shared = true
  arrays : ∀ t len e, env.under t = some (.array len e) → ∃ ie, P.info? e = some ie
  mixed : P.follows .mixedOrders = true
  fields : ∀ t fs, env.under t = some (.struct fs) → ∃ places, fs.toList.mapM (fun f => (P.info? f.type).map fun i => (f.offset, i.size)) = some places
  regions : ∀ f fn c, env.funcs f = some fn → fn.body = some c → codeOk c = true

def CellsAt (w : World) (ad : Addr) (us : List Value) : Prop := ∀ j u, us[j]? = some u → w.cell? (ad.add j) = some u

theorem RepL.list {A : Gh} {X : Nat → Prop} {w : World} {cs : List AVal} (f : Nat → Value) (h : ∀ j x, cs[j]? = some x → Rep A X w (f j) x) : RepL A X w ((List.range cs.length).map f) cs := by
  refine ⟨by simp, fun j x hx => ?_⟩
  have hj : j < cs.length := (List.getElem?_eq_some_iff.1 hx).1
  simpa [List.getD_eq_getElem?_getD, hj] using h j x hx
theorem sub_spec {cs cs' : List AVal} {off n : Nat} (h : sub cs off n = some cs') : off + n ≤ cs.length ∧ cs' = (cs.drop off).take n ∧ cs'.length = n ∧ ∀ j x, cs'[j]? = some x → j < n ∧ cs[off + j]? = some x := by
  unfold sub at h
  split at h
  · rename_i hle
    simp only [Option.some.injEq] at h
    subst h
    refine ⟨hle, rfl, by simp; omega, fun j x hx => ?_⟩
    rw [List.getElem?_take] at hx
    split at hx
    · rename_i hj; rw [List.getElem?_drop] at hx; exact ⟨hj, hx⟩
    · cases hx
  · cases h

/-- What stands in memory behind a pointer into an object. -/
theorem read_spec {env : Env} {A : Gh} {F : Nat → Prop} {w : World} {m : Mem} {H0 N0 : Nat} (h : WOK env A F w m H0 N0) {o : OId} {g i off n : Nat} {cs : List AVal} (hr : m.read o g i off n = some cs) {b sz tot : Nat} (hA : A o g = some (b, sz, tot)) :
    ∃ us, CellsAt w ⟨b, i * sz + off, none⟩ us ∧ RepL A (Own A m F) w us cs ∧ cs.length = n := by
  unfold Mem.read at hr
  simp only at hr
  have hob := h.obj o
  unfold ObjOK at hob
  split at hr
  · rename_i hg
    have row : ∀ (arr : Array Value) (t : TypeId) (fr : Nat × Nat) (es : List (List AVal)), w.heap[b]? = some (.cells arr t fr) → RowRep A (Own A m F) w arr sz es → ((es[i]?).bind fun e => sub e off n) = some cs →
        ∃ us, CellsAt w ⟨b, i * sz + off, none⟩ us ∧ RepL A (Own A m F) w us cs ∧ cs.length = n := by
      intro arr t fr es hb hrow hs
      obtain ⟨e, he, hs⟩ := Option.bind_eq_some_iff.1 hs
      obtain ⟨hle, _, hl, hc⟩ := sub_spec hs
      have hsz := hrow.2.2.1 e (List.mem_of_getElem? he)
      refine ⟨(List.range cs.length).map fun j => arr.getD (i * sz + (off + j)) undef, ?_, RepL.list _ ?_, hl⟩
      · intro j u hu
        simp only [List.getElem?_map, Option.map_eq_some_iff] at hu
        obtain ⟨j', hj', rfl⟩ := hu
        have hj2 : j' = j ∧ j < cs.length := by
          have := List.getElem?_eq_some_iff.1 hj'
          obtain ⟨h1, h2⟩ := this
          simp at h1 h2
          exact ⟨h2.symm, h1⟩
        obtain ⟨rfl, hjl⟩ := hj2
        obtain ⟨_, u, hu, _⟩ := hrow.2.2.2 i e (off + j') _ he (hc j' _ (List.getElem?_eq_getElem hjl)).2
        rw [add_cells, cell_of_row w b _ arr t fr hb, Nat.add_assoc, hu]
        simp [hu]
      · intro j x hx
        obtain ⟨_, u, hu, hrep⟩ := hrow.2.2.2 i e (off + j) x he (hc j x hx).2
        simpa [hu] using hrep
    split at hr
    · rename_i es hst
      rw [hst] at hob
      obtain ⟨b', arr, t, fr, h1, h2, h3, h4⟩ := hob
      rw [hg, hA] at h1
      simp only [Option.some.injEq, Prod.mk.injEq] at h1
      obtain ⟨rfl, rfl, rfl⟩ := h1
      exact row arr t fr es h2 h3 hr
    · rename_i es hst
      rw [hst] at hob
      obtain ⟨b', arr, t, h1, h2, h3⟩ := hob
      rw [hg, hA] at h1
      simp only [Option.some.injEq, Prod.mk.injEq] at h1
      obtain ⟨rfl, rfl, rfl⟩ := h1
      exact row arr t (0, 0) es h2 h3 hr
    · rename_i bs hst
      rw [hst] at hob
      obtain ⟨b', arr, t, h1, h2, h3, h4⟩ := hob
      rw [hg, hA] at h1
      simp only [Option.some.injEq, Prod.mk.injEq] at h1
      obtain ⟨rfl, rfl, rfl⟩ := h1
      split at hr
      · rename_i hi
        subst hi
        obtain ⟨hle, e, hl, hc⟩ := sub_spec hr
        refine ⟨((arr.toList.drop off).take n), ?_, ?_, hl⟩
        · intro j u hu
          rw [List.getElem?_take] at hu
          split at hu
          · rw [List.getElem?_drop] at hu
            rw [add_cells, cell_of_row w b _ arr t (0, 0) h2]
            simpa using hu
          · cases hu
        · rw [e]; exact (h3.drop off).take n
      · cases hr
    · cases hr
  · cases hr
theorem ip_cells {A : Gh} {X : Nat → Prop} {w : World} {ad : Addr} {cs0 : List AVal} (h : Rep A X w (.pointer (some ad)) (.ip cs0)) {cs : List AVal} {n : Nat} (hs : sub cs0 0 n = some cs) :
    ∃ us, CellsAt w ad us ∧ RepL A X w us cs ∧ cs.length = n := by
  cases h with
  | ip _ _ f hm hr =>
    obtain ⟨hle, e, hl, hc⟩ := sub_spec hs
    refine ⟨(List.range cs.length).map f, ?_, RepL.list _ ?_, hl⟩
    · intro j u hu
      simp only [List.getElem?_map, Option.map_eq_some_iff] at hu
      obtain ⟨j', hj', rfl⟩ := hu
      obtain ⟨h1, h2⟩ := List.getElem?_eq_some_iff.1 hj'
      simp at h1 h2
      subst h2
      have := (hc j _ (List.getElem?_eq_getElem h1)).2
      rw [Nat.zero_add] at this
      exact (hm j _ this).2.2
    · intro j x hx
      have := (hc j x hx).2
      rw [Nat.zero_add] at this
      exact hr j x this

theorem isAgg_run {P : Program} {env : Env} (hE : EnvOK P env) {t : TypeId} {b : Bool} (h : env.isAgg t = some b) (w : World) : (isAgg t).run P w = .ok b w := by
  unfold Env.isAgg at h
  split at h
  · rename_i hu; cases h; simp [isAgg, run_underlying (hE.under _ _ hu)]
  · rename_i hu; cases h; simp [isAgg, run_underlying (hE.under _ _ hu)]
  · rename_i d hd1 hd2 hu
    cases h
    unfold isAgg
    simp only [Sem.run_bind, run_underlying (hE.under _ _ hu), Result.andThen_ok]
    cases d <;> first | rfl | exact absurd rfl (hd1 _) | exact absurd rfl (hd2 _ _)
  · cases h
theorem pack_cases {env : Env} {t : TypeId} {cs : List AVal} {a : AVal} (h : env.pack t cs = some a) : (env.isAgg t = some true ∧ a = .agg cs) ∨ (env.isAgg t = some false ∧ cs = [a]) := by
  unfold Env.pack at h
  split at h
  · rename_i h1; cases h; exact .inl ⟨h1, rfl⟩
  · rename_i h1; cases h; exact .inr ⟨h1, rfl⟩
  · cases h
/-- A value out of its cells. -/
theorem pack_load {P : Program} {env : Env} (hE : EnvOK P env) {A : Gh} {X : Nat → Prop} {w : World} {t n : Nat} (hn : env.size t = some n) {cs : List AVal} {a : AVal} (hp : env.pack t cs = some a) {us : List Value} (hr : RepL A X w us cs) (hl : cs.length = n) {ad : Addr} (hc : CellsAt w ad us) :
    ∃ v, (loadVar t ad).run P w = .ok v w ∧ Rep A X w v a := by
  obtain ⟨i, hi, hsz⟩ := hE.size t n hn
  have hload := run_loadCells_list (P := P) w ad us hc
  have hul : us.length = n := hr.1.trans hl
  rcases pack_cases hp with ⟨hag, rfl⟩ | ⟨hag, rfl⟩
  · refine ⟨.agg us.toArray, ?_, .agg _ _ (by simpa using hr.1) (fun j x hx => by simpa using hr.2 j x hx)⟩
    rw [hul] at hload
    simp [loadVar, isAgg_run hE hag, sizeOf, typeInfo, hi, hsz, hload]
  · have hu1 : us.length = 1 := by rw [hr.1]; rfl
    obtain ⟨u, rfl⟩ := List.length_eq_one_iff.1 hu1
    refine ⟨u, ?_, hr.head⟩
    have hcell : w.cell? ad = some u := by
      have := hc 0 u (by simp)
      simpa [Addr.add] using this
    simp [loadVar, isAgg_run hE hag, load, Sem.run, hcell]
theorem pack_part {P : Program} {env : Env} (hE : EnvOK P env) {A : Gh} {X : Nat → Prop} {w : World} {t n : Nat} (hn : env.size t = some n) {cs0 cs : List AVal} {off : Nat} (hs : sub cs0 off n = some cs) {a : AVal} (hp : env.pack t cs = some a) {vs : Array Value} (hsz : vs.size = cs0.length) (hr : ∀ j x, cs0[j]? = some x → Rep A X w (vs.getD j undef) x) :
    ∃ v, (part t vs off).run P w = .ok v w ∧ Rep A X w v a := by
  obtain ⟨i, hi, hisz⟩ := hE.size t n hn
  obtain ⟨hle, _, hl, hc⟩ := sub_spec hs
  rcases pack_cases hp with ⟨hag, rfl⟩ | ⟨hag, rfl⟩
  · refine ⟨.agg (vs.extract off (off + n)), ?_, .agg _ _ (by simp [hl]; omega) (fun j x hx => ?_)⟩
    · simp [part, isAgg_run hE hag, sizeOf, typeInfo, hi, hisz]
    · have hj := hc j x hx
      have := hr _ x hj.2
      have hlt : off + j < vs.size := by omega
      have e1 : (vs.extract off (off + n)).getD j undef = vs.getD (off + j) undef := by
        have hj2 : j < min (off + n) vs.size - off := by omega
        simp [Array.getElem?_extract, hlt, hj2]
      rw [e1]; exact this
  · have hj := hc 0 a (by simp)
    have hlt : off < vs.size := by omega
    refine ⟨vs.getD off undef, ?_, by simpa using hr _ a hj.2⟩
    simp [part, isAgg_run hE hag, hlt]
end Go.Abs
