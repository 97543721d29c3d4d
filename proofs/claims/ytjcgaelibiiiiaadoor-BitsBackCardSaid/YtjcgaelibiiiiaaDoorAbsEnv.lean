/-
  THE ABSTRACT INTERPRETER: the environment out of a program. By this seat's session.
-/
import Derived.Test.YtjcgaelibiiiiaaDoorAbsSound
import Derived.Laws.StructEq
set_option linter.unusedVariables false
set_option linter.unusedSimpArgs false
namespace Go.Abs

def tyOK (P : Program) (d : TypeDesc) : Bool :=
  match d with
  | .array _ e => (P.info? e).isSome
  | .struct fs => fs.toList.all fun f => (P.info? f.type).isSome
  | _ => true
def underOf (P : Program) (t : Nat) : Option TypeDesc := (P.underlying t).bind fun d => if tyOK P d then some d else none
def zeroOf (P : Program) (t : Nat) : Option (List AVal) :=
  (P.info? t).bind fun i => i.zero.bind fun v =>
    if v.cells.toList.all Value.oneCell' then (v.cells.toList.mapM ofConst.ofCell).bind fun z => if z.all AVal.isCell && z.all AVal.shared then some z else none else none
def intField (P : Program) (k : Nat) (f : Field) : Bool :=
  f.name != "_" && f.offset == k && (match P.underlying f.type with | some (.int _) => true | _ => false)
def intFields (P : Program) : Nat → List Field → Bool
  | _, [] => true
  | k, f :: fs => intField P k f && intFields P (k + 1) fs
def eqsOf (P : Program) (t : Nat) : Option Nat :=
  match P.underlying t with
  | some (.struct fs) => if !P.stoodInHeld t && !P.eqGuardType P.depth t && intFields P 0 fs.toList then some fs.size else none
  | _ => none
def bodyOk (b : Option Code) : Bool :=
  match b with
  | some c => codeOk c
  | none => true
def funcsOf (P : Program) (f : Nat) : Option Func :=
  (P.funcs[f]?).bind fun fn => if fn.name != "runtime.NumGoroutine" && bodyOk fn.body then some fn else none
structure Marks where
  globals : Nat → Option (List AVal) := fun _ => none
  eff : Nat → Bool := fun _ => false
  site : Nat → Nat → Bool := fun _ _ => false
  pureApp : Nat → Nat → Bool := fun _ _ => false
  ext : Nat → Option (List AVal → Nat → GS → Option (List RV × GS)) := fun _ => none
def envOf (P : Program) (k : Marks) : Env where
  funcs := funcsOf P
  under := underOf P
  size := fun t => (P.info? t).map (·.size)
  zero := zeroOf P
  bytes := fun t => (P.info? t).map (·.bytes)
  eqs := eqsOf P
  globals := k.globals
  eff := k.eff
  site := k.site
  pureApp := k.pureApp
  ext := k.ext

theorem int_part {P : Program} {t : TypeId} {k : IntKind} (hu : P.underlying t = some (.int k)) {cs : Array Value} {off : Nat} {v : Value} (h : cs[off]? = some v) (w : World) : (part t cs off).run P w = .ok v w := by
  simp [part, isAgg, run_underlying hu, h]
theorem eqFields_int {P : Program} {d : Nat} (hd : 0 < d) (xs ys : Array Value) (w : World) (hx : ∀ u ∈ xs.toList, ∃ k z, u = .int k z) (hy : ∀ u ∈ ys.toList, ∃ k z, u = .int k z) : ∀ (fs : List Field) (k : Nat), intFields P k fs = true → k + fs.length = xs.size → k + fs.length = ys.size →
    ∀ r, eqCells ((xs.toList.drop k).map AVal.raw) ((ys.toList.drop k).map AVal.raw) = some r → (Op.eqFields d xs ys fs).run P w = .ok r w
  | [], k, h, h1, h2, r, hr => by
    simp at h1 h2
    rw [List.drop_eq_nil_of_le (by simp; omega), List.drop_eq_nil_of_le (by simp; omega)] at hr
    simp [eqCells] at hr
    subst hr
    simp [Op.eqFields]
  | f :: fs, k, h, h1, h2, r, hr => by
    simp only [intFields, intField, Bool.and_eq_true, bne_iff_ne, ne_eq, beq_iff_eq] at h
    obtain ⟨⟨⟨hn, ho⟩, hu⟩, hrest⟩ := h
    have hk1 : k < xs.toList.length := by simp at h1 ⊢; omega
    have hk2 : k < ys.toList.length := by simp at h2 ⊢; omega
    rw [List.drop_eq_getElem_cons hk1, List.drop_eq_getElem_cons hk2] at hr
    simp only [List.map_cons, eqCells] at hr
    obtain ⟨k1, z1, e1⟩ := hx _ (List.getElem_mem hk1)
    obtain ⟨k2, z2, e2⟩ := hy _ (List.getElem_mem hk2)
    rw [e1, e2] at hr
    split at hr
    · rename_i x y hxx hyy
      cases hr
      unfold eqCell at hxx
      simp only at hxx
      split at hxx
      · rename_i hk
        cases hxx
        subst hk
        split at hu
        · rename_i q hq
          obtain ⟨d, rfl⟩ : ∃ d', d = d' + 1 := ⟨d - 1, by omega⟩
          have g1 : xs[f.offset]? = some (.int k1 z1) := by rw [ho, ← Array.getElem?_toList, List.getElem?_eq_getElem hk1, e1]
          have g2 : ys[f.offset]? = some (.int k1 z2) := by rw [ho, ← Array.getElem?_toList, List.getElem?_eq_getElem hk2, e2]
          have ih := eqFields_int (d := d + 1) hd xs ys w hx hy fs (k + 1) hrest (by simp at h1; omega) (by simp at h2; omega) y hyy
          simp only [Op.eqFields, if_pos hn, Sem.run_bind, int_part hq g1, int_part hq g2, Result.andThen_ok, run_equalIn_int w d _ _ _ _ _ hq]
          by_cases hz : z1 = z2
          · subst hz; simpa using ih
          · simp [hz]
        · cases hu
      · cases hxx
    · cases hr

theorem envOf_ok {P : Program} {k : Marks} (hm : P.follows .mixedOrders = true) : EnvOK P (envOf P k) where
  funcs := fun f fn h => by
    obtain ⟨fn', h1, h2⟩ := Option.bind_eq_some_iff.1 h
    split at h2
    · rename_i hc
      cases h2
      simp only [Bool.and_eq_true, bne_iff_ne, ne_eq] at hc
      exact ⟨h1, by simpa using hc.1⟩
    · cases h2
  under := fun t d h => by
    obtain ⟨d', h1, h2⟩ := Option.bind_eq_some_iff.1 h
    split at h2
    · cases h2; exact h1
    · cases h2
  size := fun t n h => by
    obtain ⟨i, h1, h2⟩ := Option.map_eq_some_iff.1 h
    exact ⟨i, h1, h2⟩
  bytes := fun t n h => by
    obtain ⟨i, h1, h2⟩ := Option.map_eq_some_iff.1 h
    exact ⟨i, h1, h2⟩
  zero := fun t z h => by
    obtain ⟨i, h1, h2⟩ := Option.bind_eq_some_iff.1 h
    obtain ⟨v, h3, h4⟩ := Option.bind_eq_some_iff.1 h2
    split at h4
    · rename_i hc
      obtain ⟨z', h5, h6⟩ := Option.bind_eq_some_iff.1 h4
      split at h6
      · cases h6
        exact ⟨i, v, h1, h3, fun A X w => (mapM_rep h5).1, fun u hu => List.all_eq_true.1 hc u hu⟩
      · cases h6
    · cases h4
  eqs := fun t n h => by
    have h' : eqsOf P t = some n := h
    unfold eqsOf at h'
    split at h'
    · rename_i fs hu
      split at h'
      · rename_i hc
        cases h'
        simp only [Bool.and_eq_true, Bool.not_eq_true'] at hc
        obtain ⟨⟨hs, hg⟩, hf⟩ := hc
        refine ⟨hg, fun xs ys w h1 h2 hx hy r hr => ?_⟩
        have hff : P.fieldsOf t = fs := by simp [Program.fieldsOf, hu]
        show (Op.equalIn 10000 t (.agg xs) (.agg ys)).run P w = _
        rw [show (10000 : Nat) = 9999 + 1 from rfl, run_equalIn_struct w 9999 t xs ys (by rw [hff]; exact hu) hs, hff]
        exact eqFields_int (by omega) xs ys w hx hy fs.toList 0 hf (by simp [h1]) (by simp [h2]) r (by simpa using hr)
      · cases h'
    · cases h'
  zshared := fun t z h => by
    obtain ⟨i, h1, h2⟩ := Option.bind_eq_some_iff.1 h
    obtain ⟨v, h3, h4⟩ := Option.bind_eq_some_iff.1 h2
    split at h4
    · obtain ⟨z', h5, h6⟩ := Option.bind_eq_some_iff.1 h4
      split at h6
      · rename_i hc
        cases h6
        simpa using hc
      · cases h6
    · cases h4
  arrays := fun t len e h => by
    obtain ⟨d', h1, h2⟩ := Option.bind_eq_some_iff.1 h
    split at h2
    · rename_i hc
      cases h2
      exact Option.isSome_iff_exists.1 hc
    · cases h2
  mixed := hm
  fields := fun t fs h => by
    obtain ⟨d', h1, h2⟩ := Option.bind_eq_some_iff.1 h
    split at h2
    · rename_i hc
      cases h2
      simp only [tyOK] at hc
      have : ∀ l : List Field, l.all (fun f => (P.info? f.type).isSome) = true → ∃ places, l.mapM (fun f => (P.info? f.type).map fun i => (f.offset, i.size)) = some places := by
        intro l
        induction l with
        | nil => intro _; exact ⟨[], by simp⟩
        | cons f l ih =>
          intro hl
          simp only [List.all_cons, Bool.and_eq_true] at hl
          obtain ⟨i, hi⟩ := Option.isSome_iff_exists.1 hl.1
          obtain ⟨p, hp⟩ := ih hl.2
          exact ⟨(f.offset, i.size) :: p, by rw [List.mapM_cons]; simp [hi, hp]⟩
      exact this _ hc
    · cases h2
  regions := fun f fn c h hb => by
    obtain ⟨fn', h1, h2⟩ := Option.bind_eq_some_iff.1 h
    split at h2
    · rename_i hc
      cases h2
      simp only [Bool.and_eq_true] at hc
      rw [hb] at hc
      exact hc.2
    · cases h2
end Go.Abs
