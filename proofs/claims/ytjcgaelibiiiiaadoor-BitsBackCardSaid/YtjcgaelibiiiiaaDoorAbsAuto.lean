/-
  THE ABSTRACT INTERPRETER, walked by program: the rules that printed walks name. By this seat's session.
-/
import Derived.Test.YtjcgaelibiiiiaaDoorAbsLaw
import Derived.Test.YtjcgaelibiiiiaaDoorAbsWp
set_option linter.unusedVariables false
set_option linter.unusedSimpArgs false
namespace Go.Abs
section
variable {env : Env} {f base nt : Nat} {s : St} {Q : AExit → St → Prop} {d : Option Tmp} {dd : Tmp} {v : AVal} {fl : List Bool} {R : Rest}
theorem aw_cond_t {k : Nat} {a b : Code} (hb : ∃ t, s.get k = .raw (.bool t)) (h1 : s.get k = .raw (.bool true) → Wp env f base nt a s Q) (h0 : s.get k = .raw (.bool false) → Wp env f base nt b s Q) : Wp env f base nt (.cond (.tmp k) a b) s Q := by
  obtain ⟨t, ht⟩ := hb
  refine aw_cond (t := t) (by simp [ht]) ?_
  cases t
  · exact h0 ht
  · exact h1 ht
theorem aw_cond_1 {k : Nat} {a b : Code} (hb : s.get k = .raw (.bool true)) (h1 : Wp env f base nt a s Q) : Wp env f base nt (.cond (.tmp k) a b) s Q := aw_cond (t := true) (by simp [hb]) h1
theorem aw_cond_0 {k : Nat} {a b : Code} (hb : s.get k = .raw (.bool false)) (h1 : Wp env f base nt b s Q) : Wp env f base nt (.cond (.tmp k) a b) s Q := aw_cond (t := false) (by simp [hb]) h1
theorem wpG_split {op : Op} {w : Bool} {A : AVal} (hb : ∃ t, A = .raw (.bool t)) (h1 : A = .raw (.bool true) → WpG env f base nt d op w s fl R (.raw (.bool true))) (h0 : A = .raw (.bool false) → WpG env f base nt d op w s fl R (.raw (.bool false))) : WpG env f base nt d op w s fl R A := by
  obtain ⟨t, rfl⟩ := hb
  cases t
  · exact h0 rfl
  · exact h1 rfl
theorem placeL_vals (g : Bool) : ∀ (vs : List AVal) (key : Nat) (m : Mem), placeL g key m (vs.map .v) = (vs, m)
  | [], _, _ => rfl
  | a :: l, key, m => by simp [placeL, place1, placeL_vals g l]
theorem anyRow_vals : ∀ vs : List AVal, (vs.map RV.v).any isRow = false
  | [] => rfl
  | a :: l => by simp [isRow]
/-- What a caller sees that only reads it. -/
def seenV : RV → AVal
  | .v a => a
  | .row _ es => .sl es
@[simp] theorem seenV_v (a : AVal) : seenV (.v a) = a := rfl
@[simp] theorem seenV_row (sz : Nat) (es : List (List AVal)) : seenV (.row sz es) = .sl es := rfl
/-- A row that was made by appending. -/
def rowRV (sz : Nat) (es : List (List AVal)) : RV := if es.isEmpty then .v (.sl []) else .row sz es
@[simp] theorem seenV_rowRV (sz : Nat) (es : List (List AVal)) : seenV (rowRV sz es) = .sl es := by
  unfold rowRV
  cases es <;> rfl
theorem asSeen_seenV {pr : Bool} {rs : List RV} (h : (pr || !rs.any isRow) = true) : asSeen pr rs = (rs.map seenV).map .v := by
  unfold asSeen
  cases pr with
  | true => simp only [if_true, List.map_map]; congr 1; funext r; cases r <;> rfl
  | false =>
    simp only [Bool.false_eq_true, if_false]
    simp only [Bool.false_or, Bool.not_eq_true'] at h
    induction rs with
    | nil => rfl
    | cons r rs ih =>
      simp only [List.any_cons, Bool.or_eq_false_iff] at h
      cases r with
      | v a => simp only [List.map_cons, seenV_v]; rw [← ih h.2]
      | row sz es => simp [isRow] at h
/-- A call of a function that writes nothing of its callers', its answers only read. -/
theorem wpC_vals {g : FuncId} {m : Mem} {args : List AVal} {rs : List RV} {gs : GS} (he : Evals env g args m.gs.n m.gs (rs, gs)) (hm : s.m = m) (hok : (env.pureApp f (d.getD 0) || !rs.any isRow) = true) (hn : rs.length ≤ 4) (heff : env.eff g = false) (hp : args.all plainArg = true) (h : dstOk nt d = true ∧ R (false :: fl) (s.upd d (oneV (rs.map seenV)) none)) : WpC env f base nt d s fl R g (passVs base m args) := by
  subst hm
  rw [passVs_plain s.m args hp]
  refine ⟨rs, _, gs, ?_, asSeen_seenV hok, by simpa using hn, ?_⟩
  · rw [heff]; exact he
  · rw [placeL_vals, heff, anyRow_vals]
    exact h
@[simp] theorem oneV_two (a b : AVal) : oneV [a, b] = .tup [a, b] := rfl
@[simp] theorem oneV_one (a : AVal) : oneV [a] = a := rfl
@[simp] theorem oneV_three (a b c : AVal) : oneV [a, b, c] = .tup [a, b, c] := rfl
@[simp] theorem oneV_four (a b c d : AVal) : oneV [a, b, c, d] = .tup [a, b, c, d] := rfl
theorem aInd_int (n : Nat) (k : IntKind) (z : Int) (h0 : 0 ≤ z) (h : z < n) : aInd n (.raw (.int k z)) = some z.toNat := by
  unfold aInd
  simp only
  rw [if_pos (by simp; omega)]
theorem idx_map {α : Type} {t e : TypeId} {sz : Nat} {enc : α → List AVal} {l : List α} {k : IntKind} {z : Int} {m : Mem} (hu : env.under t = some (.slice e)) (hs : env.size e = some sz) (h0 : 0 ≤ z) (h : z < l.length) (hl : ∀ x, (enc x).length = sz) (hz : 0 < sz) :
    idx env m t (.sl (l.map enc)) (.raw (.int k z)) = some (.ip (enc (l[z.toNat]'(by omega))), none) :=
  idx_sl (k := z.toNat) hu hs (aInd_int _ _ _ h0 (by simpa using h)) (by simp [show z.toNat < l.length by omega]) (hl _) hz m
theorem sub_all (cs : List AVal) (n : Nat) (h : cs.length = n) : sub cs 0 n = some cs := by subst h; simp [sub]
theorem splice_all (cs new : List AVal) (h : cs.length = new.length) : splice cs 0 new = some new := by
  unfold splice; simp [h]
@[simp] theorem sub_cons (a : AVal) (l : List AVal) (n : Nat) : sub (a :: l) 0 (n + 1) = (sub l 0 n).map (a :: ·) := by
  unfold sub
  by_cases h : n ≤ l.length <;> simp [h]
@[simp] theorem sub_zero (l : List AVal) : sub l 0 0 = some [] := by simp [sub]
@[simp] theorem sub_off (a : AVal) (l : List AVal) (o n : Nat) : sub (a :: l) (o + 1) n = sub l o n := by
  unfold sub
  by_cases h : o + n ≤ l.length
  · simp [h, show o + 1 + n ≤ l.length + 1 by omega]
  · simp [h, show ¬ o + 1 + n ≤ l.length + 1 by omega]
@[simp] theorem aLen_slice (t : TypeId) (es : List (List AVal)) (e : TypeId) (h : env.under t = some (.slice e)) : aLen env (some t) (.sl es) = some (.raw (.int .i64 es.length)) := by
  simp [aLen, h]
theorem pack_one (t : TypeId) (c : AVal) (h : env.isAgg t = some false) : env.pack t [c] = some c := by simp [Env.pack, h]
theorem pack_agg' (t : TypeId) (cs : List AVal) (h : env.isAgg t = some true) : env.pack t cs = some (.agg cs) := by simp [Env.pack, h]
theorem aw_inv2 {b : Code} (I : Nat → St → Prop) (h0 : ∃ k, I k s) (hb : ∀ k s, I k s → Wp env f base nt b s (invQ I k Q)) : Wp env f base nt (.loop b) s Q := by
  obtain ⟨k, hk⟩ := h0
  exact aw_inv I k hk hb
theorem retQ_vals {g : Nat} {rs : Array ResultVar} {e : AExit} (vals : List AVal) {gs : GS} (he : e = .normal ∨ e = .ret) (ha : rs.toList.mapM (resultOf env s) = some vals) (hf : vals.all givenAs = true) (hg : s.m.gs = gs) {r : List RV × GS} (hr : r = (vals.map .v, gs)) : RetQ env g base rs r e s := retQ_as he ha hf hg hr
/-- A branch, by what its condition is. -/
def CondV (env : Env) (f base nt : Nat) (a b : Code) (s : St) (Q : AExit → St → Prop) (A : AVal) : Prop := ∃ t, A = .raw (.bool t) ∧ Wp env f base nt (if t then a else b) s Q
theorem aw_cond_v {k : Nat} {a b : Code} (h : CondV env f base nt a b s Q (s.get k)) : Wp env f base nt (.cond (.tmp k) a b) s Q := by
  obtain ⟨t, ht, h⟩ := h
  exact aw_cond (t := t) (by simp [ht]) h
theorem condV_split {a b : Code} {A : AVal} (hb : ∃ t, A = .raw (.bool t)) (h1 : A = .raw (.bool true) → Wp env f base nt a s Q) (h0 : A = .raw (.bool false) → Wp env f base nt b s Q) : CondV env f base nt a b s Q A := by
  obtain ⟨t, rfl⟩ := hb
  refine ⟨t, rfl, ?_⟩
  cases t
  · exact h0 rfl
  · exact h1 rfl
theorem condV_1 {a b : Code} {A : AVal} (hb : A = .raw (.bool true)) (h1 : Wp env f base nt a s Q) : CondV env f base nt a b s Q A := ⟨true, hb, h1⟩
theorem condV_0 {a b : Code} {A : AVal} (hb : A = .raw (.bool false)) (h1 : Wp env f base nt b s Q) : CondV env f base nt a b s Q A := ⟨false, hb, h1⟩
@[simp] theorem aInt_add (k : IntKind) (a b : Int) : aInt .add k a b = some (.int k (k.wrap (a + b))) := rfl
@[simp] theorem aInt_sub (k : IntKind) (a b : Int) : aInt .sub k a b = some (.int k (k.wrap (a - b))) := rfl
@[simp] theorem aInt_mul (k : IntKind) (a b : Int) : aInt .mul k a b = some (.int k (k.wrap (a * b))) := rfl
@[simp] theorem aInt_quo (k : IntKind) (a b : Int) : aInt .quo k a b = if b = 0 then none else some (.int k (k.wrap (a.tdiv b))) := rfl
@[simp] theorem aInt_rem (k : IntKind) (a b : Int) : aInt .rem k a b = if b = 0 then none else some (.int k (a.tmod b)) := rfl
@[simp] theorem aInt_eql (k : IntKind) (a b : Int) : aInt .eql k a b = some (.bool (decide (a = b))) := rfl
@[simp] theorem aInt_neq (k : IntKind) (a b : Int) : aInt .neq k a b = some (.bool (!decide (a = b))) := rfl
@[simp] theorem aInt_lss (k : IntKind) (a b : Int) : aInt .lss k a b = some (.bool (decide (a < b))) := rfl
@[simp] theorem aInt_leq (k : IntKind) (a b : Int) : aInt .leq k a b = some (.bool (decide (a ≤ b))) := rfl
@[simp] theorem aInt_gtr (k : IntKind) (a b : Int) : aInt .gtr k a b = some (.bool (decide (b < a))) := rfl
@[simp] theorem aInt_geq (k : IntKind) (a b : Int) : aInt .geq k a b = some (.bool (decide (b ≤ a))) := rfl
def app1 (env : Env) (base f d : Nat) (m : Mem) (ts : Array TypeId) : List AVal → Option (AVal × Option Mem)
  | [x, y] => (if ts.size = 2 && ts.getD 0 0 == ts.getD 1 1 then env.elemOf (ts.getD 0 0) else none).bind fun e => aAppend env base (env.site f d) (env.pureApp f d) (4 * d) m e x y
  | _ => none
@[simp] theorem app1_two (m : Mem) (t : TypeId) (x y : AVal) : app1 env base f dd m #[t, t] [x, y] = (env.elemOf t).bind fun e => aAppend env base (env.site f dd) (env.pureApp f dd) (4 * dd) m e x y := by
  simp [app1]
@[simp] theorem aw_append (as : Array Operand) (ts : Array TypeId) : WpOp env f base nt (some dd) (.call ⟨.builtin .append, as, ts⟩) s fl R = WpV nt (some dd) s fl R ((evals env s as.toList).bind (app1 env base f dd s.m ts)) := by
  show WpV nt (some dd) s fl R ((evals env s as.toList).bind _) = _
  cases h : evals env s as.toList with
  | none => rfl
  | some args => match args with
    | [] => rfl
    | [x] => rfl
    | [x, y] => rfl
    | _ :: _ :: _ :: _ => rfl
/-- A slice literal. -/
def bsl (env : Env) (base f d : Nat) (m : Mem) (t : TypeId) (len : Nat) : Option (List (Nat × AVal)) → Option (AVal × Option Mem)
  | some ps => (env.elemOf t).bind fun e => (env.size e).bind fun sz => (env.zero e).bind fun z =>
    if len = 0 then (if ps.isEmpty then some (.e0, none) else none)
    else if sz = 0 || z.length != sz || ps.length != len || decide (16777216 < len * sz) then none
    else (aElems base sz m 0 ps).map fun (es, m1) =>
      if env.site f d then let (o, g, m') := newObj true (4 * d) (m1.getD m) (.row sz es); (.hs o g 0 es.length, some m') else (.sl es, m1)
  | none => none
@[simp] theorem aw_buildSlice (t : TypeId) (len : Nat) (ps : Array (Nat × Operand)) : WpOp env f base nt (some dd) (.buildSlice t len ps) s fl R = WpV nt (some dd) s fl R (bsl env base f dd s.m t len (evalParts env s ps.toList)) := by
  show WpV nt (some dd) s fl R ((env.elemOf t).bind fun e => (env.size e).bind fun sz => (env.zero e).bind fun z => (evalParts env s ps.toList).bind _) = _
  cases evalParts env s ps.toList with
  | none =>
    show WpV nt (some dd) s fl R _ = WpV nt (some dd) s fl R none
    congr 1
    cases env.elemOf t with
    | none => rfl
    | some e =>
      simp only [Option.bind_some]
      cases env.size e with
      | none => rfl
      | some z => simp only [Option.bind_some]; cases env.zero e <;> rfl
  | some l => rfl
@[simp] theorem bsl_nil (m : Mem) (t e : TypeId) (h : env.elemOf t = some e) (h2 : (env.size e).isSome = true) (h3 : (env.zero e).isSome = true) : bsl env base f dd m t 0 (some []) = some (.e0, none) := by
  obtain ⟨a, ha⟩ := Option.isSome_iff_exists.1 h2
  obtain ⟨b, hb⟩ := Option.isSome_iff_exists.1 h3
  simp [bsl, h, ha, hb]
/-- A literal of one element of cells that are plain. -/
theorem bsl_one (m : Mem) {t e sz : Nat} {z : List AVal} {a : AVal} (hs : env.site f dd = false) (he : env.elemOf t = some e) (h2 : env.size e = some sz) (h3 : env.zero e = some z) (hz : z.length = sz) (h0 : 0 < sz) (hb : sz ≤ 16777216) (hl : a.cells.length = sz) (hf : a.cells.all AVal.fixed = true) : bsl env base f dd m t 1 (some [(0, a)]) = some (.sl [a.cells], none) := by
  unfold bsl
  simp only [he, h2, h3, hs, Option.bind_some]
  have e1 : (sz = 0 || z.length != sz || [(0, a)].length != 1 || decide (16777216 < 1 * sz)) = false := by simp; omega
  simp only [Nat.one_ne_zero, if_false, e1, Bool.false_eq_true]
  unfold aElems
  simp [hl, frzL_fixed m _ hf, aElems, orM]
def bld (env : Env) (t : TypeId) (z : Option (List AVal)) (ps : Option (List (Nat × AVal))) : Option (AVal × Option Mem) :=
  ps.bind fun ps => z.bind fun z =>
    match env.isAgg t with
    | some true => (aFill (placeIn env t) z ps).map fun cs => (.agg cs, none)
    | _ => none
@[simp] theorem aw_buildOp (t : TypeId) (ps : Array (Nat × Operand)) : WpOp env f base nt d (.build t ps) s fl R = WpV nt d s fl R (bld env t (env.zero t) (evalParts env s ps.toList)) := rfl
/-! ### A row that is made by appending. -/
/-- What is appended to: nothing yet, or a row of one's own under one of some keys. -/
def RowIs (ks : List Nat) (m : Mem) (a : AVal) (sz : Nat) (es : List (List AVal)) : Prop :=
  (a = .e0 ∧ es = []) ∨ ∃ k g, k ∈ ks ∧ a = .hs (.loc k) g 0 es.length ∧ m.obj (.loc k) = ⟨g, .row sz es⟩ ∧ es ≠ []
theorem RowIs.start (ks : List Nat) (m : Mem) (sz : Nat) : RowIs ks m .e0 sz [] := .inl ⟨rfl, rfl⟩
@[simp] theorem rowIs_e0 (ks : List Nat) (m : Mem) (sz : Nat) : RowIs ks m .e0 sz [] = True := eq_true (.inl ⟨rfl, rfl⟩)
theorem RowIs.keep {ks : List Nat} {m m' : Mem} {a : AVal} {sz : Nat} {es : List (List AVal)} (h : RowIs ks m a sz es) (hk : ∀ k ∈ ks, m'.obj (.loc k) = m.obj (.loc k)) : RowIs ks m' a sz es := by
  rcases h with h | ⟨k, g, h1, h2, h3, h4⟩
  · exact .inl h
  · exact .inr ⟨k, g, h1, h2, by rw [hk k h1]; exact h3, h4⟩
@[simp] theorem rowIs_newLoc {ks : List Nat} {m : Mem} {a : AVal} {sz k : Nat} {st : OSt} {es : List (List AVal)} (hk : k ∉ ks) : RowIs ks (newLoc k m st) a sz es = RowIs ks m a sz es := by
  have e : ∀ j ∈ ks, (newLoc k m st).obj (.loc j) = m.obj (.loc j) := fun j hj => by
    rw [newLoc_obj, if_neg]; rintro rfl; exact hk hj
  exact propext ⟨fun h => h.keep fun j hj => (e j hj).symm, fun h => h.keep e⟩
@[simp] theorem rowIs_put {ks : List Nat} {m : Mem} {a : AVal} {sz k : Nat} {x : AObj} {es : List (List AVal)} (hk : k ∉ ks) : RowIs ks (m.put (.loc k) x) a sz es = RowIs ks m a sz es := by
  have e : ∀ j ∈ ks, (m.put (.loc k) x).obj (.loc j) = m.obj (.loc j) := fun j hj => by
    rw [put_loc_obj, if_neg]; rintro rfl; exact hk hj
  exact propext ⟨fun h => h.keep fun j hj => (e j hj).symm, fun h => h.keep e⟩
theorem aAppend_row {ks : List Nat} {m : Mem} {a : AVal} {sz e by_ key : Nat} {z : List AVal} {es ys : List (List AVal)} (h : RowIs ks m a sz es) (hk : key ∈ ks) (hy : ys ≠ [])
    (hyl : ∀ y ∈ ys, y.length = sz ∧ y.all AVal.fixed = true) (h1 : env.size e = some sz) (h2 : env.bytes e = some by_) (h3 : env.zero e = some z) (h4 : z.length = sz) (h5 : 0 < sz) (h6 : 0 < by_) (h7 : (es.length + ys.length) * by_ ≤ maxBytes) :
    ∃ a' m', aAppend env base false false key m e a (.sl ys) = some (a', some m') ∧ RowIs ks m' a' sz (es ++ ys) ∧ m'.gs = m.gs ∧ ∀ j, j ∉ ks → m'.obj (.loc j) = m.obj (.loc j) := by
  have hall : (ys.all fun e => e.length == sz && e.all AVal.fixed) = true := List.all_eq_true.2 fun y hy => by simp only [(hyl y hy).1, (hyl y hy).2, beq_self_eq_true, Bool.and_self]
  have hc : (sz = 0 || by_ = 0 || !(ys.all fun e => e.length == sz && e.all AVal.fixed) || z.length != sz) = false := by
    rw [hall]; simp; omega
  have hne : (es ++ ys) ≠ [] := by simp [hy]
  unfold aAppend
  simp only [h1, h2, h3, Mem.elems, Option.bind_some]
  rw [hc]
  simp only [Bool.false_eq_true, if_false]
  rcases h with ⟨rfl, rfl⟩ | ⟨k, g, hkk, rfl, ho, hes⟩
  · simp only [List.length_nil, Nat.zero_add] at h7
    have hey : ys.isEmpty = false := by cases ys <;> simp at hy ⊢
    simp only [hey, Bool.false_eq_true, if_false, h7, decide_true, if_true, newObj_false]
    refine ⟨_, _, rfl, .inr ⟨key, genOf m key, hk, rfl, by simp, hne⟩, rfl, fun j hj => ?_⟩
    rw [newLoc_obj, if_neg]; rintro rfl; exact hj hk
  · simp only [ho, mayWrite, Bool.and_true, decide_true, beq_self_eq_true, if_true, h7]
    refine ⟨_, _, rfl, .inr ⟨k, g + 1, hkk, by simp, by simp, hne⟩, rfl, fun j hj => ?_⟩
    rw [put_loc_obj, if_neg]; rintro rfl; exact hj hkk
theorem wpV_append {ks : List Nat} {m : Mem} {a : AVal} {sz e by_ key : Nat} {z : List AVal} {es ys : List (List AVal)} (h : RowIs ks m a sz es) (hk : key ∈ ks) (hy : ys ≠ [])
    (hyl : ∀ y ∈ ys, y.length = sz ∧ y.all AVal.fixed = true) (h1 : env.size e = some sz) (h2 : env.bytes e = some by_) (h3 : env.zero e = some z) (h4 : z.length = sz) (h5 : 0 < sz) (h6 : 0 < by_) (h7 : (es.length + ys.length) * by_ ≤ maxBytes)
    (K : ∀ a' m', RowIs ks m' a' sz (es ++ ys) → m'.gs = m.gs → (∀ j, j ∉ ks → m'.obj (.loc j) = m.obj (.loc j)) → dstOk nt d = true ∧ R (true :: fl) (s.upd d a' (some m'))) : WpV nt d s fl R (aAppend env base false false key m e a (.sl ys)) := by
  obtain ⟨a', m', e1, e2, e3, e4⟩ := aAppend_row (base := base) h hk hy hyl h1 h2 h3 h4 h5 h6 h7
  rw [e1]
  exact K a' m' e2 e3 e4
theorem giveCells_row {ks : List Nat} {m : Mem} {a : AVal} {sz : Nat} {es : List (List AVal)} (h : RowIs ks m a sz es) : ∃ m', giveCells base m a = some (rowRV sz es, m') ∧ m'.gs = m.gs := by
  rcases h with ⟨rfl, rfl⟩ | ⟨k, g, hkk, rfl, ho, hes⟩
  · exact ⟨m, rfl, rfl⟩
  · refine ⟨m.put (.loc k) ⟨g, .dead⟩, ?_, rfl⟩
    unfold giveCells rowRV
    have : es.isEmpty = false := by cases es <;> simp at hes ⊢
    simp [ho, mayWrite, this]
theorem retQ_row {g sz : Nat} {m : Mem} {ks : List Nat} {rs : Array ResultVar} {e : AExit} {a : AVal} {es : List (List AVal)} (vals : List AVal) {gs : GS} (he : e = .normal ∨ e = .ret) (ha : rs.toList.mapM (resultOf env s) = some (a :: vals)) (hrow : RowIs ks m a sz es) (hm : s.m = m) (hf : vals.all givenAs = true) (hg : s.m.gs = gs) (heff : env.eff g = false) {r : List RV × GS} (hr : r = (rowRV sz es :: vals.map .v, gs)) : RetQ env g base rs r e s := by
  subst hr hm
  refine ⟨he, ?_⟩
  obtain ⟨m', e1, e2⟩ := giveCells_row (base := base) hrow
  rw [ha, Option.bind_some, heff]
  unfold gives
  simp only [Bool.false_eq_true, if_false, e1]
  rw [gives_as _ _ _ hf]
  simp [e2, hg]
@[simp] theorem cells_raw (v : Value) : (AVal.raw v).cells = [.raw v] := by simp [AVal.cells]
@[simp] theorem cells_agg (cs : List AVal) : (AVal.agg cs).cells = cs := by simp [AVal.cells]
@[simp] theorem cells_sl (es : List (List AVal)) : (AVal.sl es).cells = [.sl es] := by simp [AVal.cells]
@[simp] theorem cells_e0 : (AVal.e0).cells = [.e0] := by simp [AVal.cells]
@[simp] theorem cells_hs (o : OId) (g lo n : Nat) : (AVal.hs o g lo n).cells = [.hs o g lo n] := by simp [AVal.cells]
@[simp] theorem cells_hp (o : OId) (g i k : Nat) : (AVal.hp o g i k).cells = [.hp o g i k] := by simp [AVal.cells]
@[simp] theorem cells_clo (g : FuncId) (a b : List AVal) : (AVal.clo g a b).cells = [.clo g a b] := by simp [AVal.cells]
@[simp] theorem fixed_int (k : IntKind) (z : Int) : (AVal.raw (.int k z)).fixed = true := by simp [AVal.fixed, rawCell]
@[simp] theorem fixed_bool (b : Bool) : (AVal.raw (.bool b)).fixed = true := by simp [AVal.fixed, rawCell]
@[simp] theorem fixed_string (b : ByteArray) : (AVal.raw (.string b)).fixed = true := by simp [AVal.fixed, rawCell]
@[simp] theorem fixed_sl (es : List (List AVal)) : (AVal.sl es).fixed = true := by simp [AVal.fixed]
@[simp] theorem isCell_int (k : IntKind) (z : Int) : (AVal.raw (.int k z)).isCell = true := by simp [AVal.isCell, rawCell]
@[simp] theorem isCell_bool (b : Bool) : (AVal.raw (.bool b)).isCell = true := by simp [AVal.isCell, rawCell]
@[simp] theorem isCell_string (b : ByteArray) : (AVal.raw (.string b)).isCell = true := by simp [AVal.isCell, rawCell]
@[simp] theorem isCell_sl (es : List (List AVal)) : (AVal.sl es).isCell = true := by simp [AVal.isCell]
@[simp] theorem isCell_e0 : (AVal.e0).isCell = true := by simp [AVal.isCell]
@[simp] theorem isCell_hs (o : OId) (g lo n : Nat) : (AVal.hs o g lo n).isCell = true := by simp [AVal.isCell]
@[simp] theorem isCell_hp (o : OId) (g i k : Nat) : (AVal.hp o g i k).isCell = true := by simp [AVal.isCell]
@[simp] theorem isCell_clo (g : FuncId) (a b : List AVal) : (AVal.clo g a b).isCell = true := by simp [AVal.isCell]
theorem wrap_u64 {z : Int} (h0 : 0 ≤ z) (h1 : z < 18446744073709551616) : IntKind.u64.wrap z = z := by
  unfold IntKind.wrap
  simp only [IntKind.bits, IntKind.signed, Bool.false_and, Bool.false_eq_true, if_false]
  omega
theorem wrap_u8 {z : Int} (h0 : 0 ≤ z) (h1 : z < 256) : IntKind.u8.wrap z = z := by
  unfold IntKind.wrap
  simp only [IntKind.bits, IntKind.signed, Bool.false_and, Bool.false_eq_true, if_false]
  omega
theorem tmod_nn {a b : Int} (h : 0 ≤ a) : a.tmod b = a % b := Int.tmod_eq_emod_of_nonneg h
theorem tdiv_nn {a b : Int} (h : 0 ≤ a) : a.tdiv b = a / b := Int.tdiv_eq_ediv_of_nonneg h
theorem pow2_ne (k : Nat) : ((2 ^ k : Nat) : Int) ≠ 0 := by
  have : 0 < 2 ^ k := Nat.pow_pos (by decide)
  omega
theorem pow2_ne_i (k : Nat) : (2 : Int) ^ k ≠ 0 := by
  have := pow2_ne k
  rwa [Int.natCast_pow] at this
theorem fdiv_nn {a b : Int} (h : 0 ≤ b) : a.fdiv b = a / b := Int.fdiv_eq_ediv_of_nonneg a h
theorem shr_u64 {a b : Int} (h0 : 0 ≤ b) (h1 : b < 64) : aShift .shr .u64 a b = some (.int .u64 (a / 2 ^ b.toNat)) := by
  unfold aShift
  rw [if_neg (by omega)]
  have : min b.toNat IntKind.u64.bits = b.toNat := by simp [IntKind.bits]; omega
  simp only [this]
  rw [Int.fdiv_eq_ediv_of_nonneg _ (Int.le_of_lt (Int.pow_pos (by decide)))]
theorem shl_u64 {a b : Int} (h0 : 0 ≤ b) (h1 : b ≤ 64) : aShift .shl .u64 a b = some (.int .u64 (IntKind.u64.wrap (a * 2 ^ b.toNat))) := by
  unfold aShift
  rw [if_neg (by omega)]
  have : min b.toNat IntKind.u64.bits = b.toNat := by simp [IntKind.bits]; omega
  simp only [this]
theorem ofInt_nat {n : Nat} {a : Int} (h0 : 0 ≤ a) (h1 : a < 2 ^ n) : (BitVec.ofInt n a).toNat = a.toNat := by
  rw [BitVec.toNat_ofInt]
  rw [Int.emod_eq_of_lt h0 (by rw [Int.natCast_pow]; exact h1)]
theorem and_u64 {a b : Int} (h0 : 0 ≤ a) (h1 : a < 18446744073709551616) (h2 : 0 ≤ b) (h3 : b < 18446744073709551616) : aInt .and .u64 a b = some (.int .u64 ((a.toNat &&& b.toNat : Nat) : Int)) := by
  unfold aInt
  simp only [BitVec.toNat_and]
  rw [show IntKind.u64.bits = 64 from rfl, ofInt_nat h0 (by simpa using h1), ofInt_nat h2 (by simpa using h3)]
  have := Nat.and_le_left (n := a.toNat) (m := b.toNat)
  rw [wrap_u64 (by omega) (by omega)]
theorem or_u64 {a b : Int} (h0 : 0 ≤ a) (h1 : a < 18446744073709551616) (h2 : 0 ≤ b) (h3 : b < 18446744073709551616) : aInt .or .u64 a b = some (.int .u64 ((a.toNat ||| b.toNat : Nat) : Int)) := by
  unfold aInt
  simp only [BitVec.toNat_or]
  rw [show IntKind.u64.bits = 64 from rfl, ofInt_nat h0 (by simpa using h1), ofInt_nat h2 (by simpa using h3)]
  have : a.toNat ||| b.toNat < 2 ^ 64 := Nat.or_lt_two_pow (by omega) (by omega)
  rw [wrap_u64 (by omega) (by omega)]
theorem and1_u64 {a : Int} : aInt .and .u64 a 1 = some (.int .u64 (a % 2)) := by
  unfold aInt
  simp only [BitVec.toNat_and]
  rw [show IntKind.u64.bits = 64 from rfl, ofInt_nat (n := 64) (a := 1) (by decide) (by decide)]
  rw [show (1 : Int).toNat = 1 from rfl, Nat.and_one_is_mod, BitVec.toNat_ofInt]
  rw [wrap_u64 (by omega) (by omega)]
  congr 2
  omega
/-! ### Writes. -/
def wobj (base : Nat) (m : Mem) (o : OId) (x : AObj) (g i off : Nat) (new : List AVal) : Option Mem :=
  if x.gen = g && mayWrite base o then
    match x.st with
    | .row _ _ =>
      (frzL base m new).bind fun (new, m1) =>
        let m' := m1.getD m
        let y := m'.obj o
        if y.gen = g then
          match y.st with
          | .row sz es => (es[i]?).bind fun e => (splice e off new).map fun e' => m'.put o ⟨g, .row sz (es.set i e')⟩
          | _ => none
        else none
    | .box cs =>
      if i = 0 then
        match o with
        | .loc _ => if new.all AVal.isCell then (splice cs off new).map fun cs' => m.put o ⟨g, .box cs'⟩ else none
        | .glob _ => if new.all AVal.shared then (splice cs off new).map fun cs' => m.put o ⟨g, .box cs'⟩ else none
      else none
    | _ => none
  else none
@[simp] theorem write_eq (m : Mem) (o : OId) (g i off : Nat) (new : List AVal) : m.write base o g i off new = wobj base m o (m.obj o) g i off new := rfl
@[simp] theorem wobj_box (m : Mem) (k g off : Nat) (cs new : List AVal) : wobj base m (.loc k) ⟨g, .box cs⟩ g 0 off new = if new.all AVal.isCell then (splice cs off new).map fun cs' => m.put (.loc k) ⟨g, .box cs'⟩ else none := by
  unfold wobj
  simp [mayWrite]
theorem wobj_row {m : Mem} {k g i off sz : Nat} {es : List (List AVal)} {new : List AVal} (ho : m.obj (.loc k) = ⟨g, .row sz es⟩) (hn : new.all AVal.fixed = true) : wobj base m (.loc k) ⟨g, .row sz es⟩ g i off new = (es[i]?).bind fun e => (splice e off new).map fun e' => m.put (.loc k) ⟨g, .row sz (es.set i e')⟩ := by
  unfold wobj
  simp [mayWrite, frzL_fixed m new hn, ho]
theorem int_beq (a b : Int) : (a == b) = decide (a = b) := rfl
theorem wrap_u64_range (z : Int) : 0 ≤ IntKind.u64.wrap z ∧ IntKind.u64.wrap z < 18446744073709551616 := by
  unfold IntKind.wrap
  simp only [IntKind.bits, IntKind.signed, Bool.false_and, Bool.false_eq_true, if_false]
  omega
theorem and_u64n {a b : Nat} (h1 : a < 18446744073709551616) (h3 : b < 18446744073709551616) : aInt .and .u64 (a : Int) (b : Int) = some (.int .u64 ((a &&& b : Nat) : Int)) := by
  have := and_u64 (a := (a : Int)) (b := (b : Int)) (by omega) (by omega) (by omega) (by omega)
  simpa using this
theorem and127_i64 {a : Int} : aInt .and .i64 a 127 = some (.int .i64 (a % 128)) := by
  unfold aInt
  simp only [BitVec.toNat_and]
  rw [show IntKind.i64.bits = 64 from rfl, ofInt_nat (n := 64) (a := 127) (by decide) (by decide)]
  rw [show (127 : Int).toNat = 2 ^ 7 - 1 from rfl, Nat.and_two_pow_sub_one_eq_mod, BitVec.toNat_ofInt]
  rw [wrap_i64 (by omega) (by omega)]
  congr 2
  omega
/-! ### Ends that hand over nothing. -/
def givenV : AVal → AVal
  | .e0 => .sl []
  | a => a
def givenOk : AVal → Bool
  | .e0 => true
  | a => givenAs a
theorem give_ok (eff : Bool) (m : Mem) {a : AVal} (h : givenOk a = true) : (if eff then giveShared base m a else giveCells base m a) = some (.v (givenV a), m) := by
  unfold givenOk at h
  split at h
  · cases eff <;> rfl
  · rename_i hne
    have := give_as (base := base) eff m h
    rw [this]
    unfold givenV
    split
    · exact absurd rfl hne
    · rfl
theorem gives_ok (eff : Bool) (m : Mem) : ∀ (l : List AVal), l.all givenOk = true → gives eff base m l = some ((l.map givenV).map .v, m)
  | [], _ => rfl
  | a :: l, h => by
    simp only [List.all_cons, Bool.and_eq_true] at h
    unfold gives
    rw [give_ok eff m h.1]
    simp only [gives_ok eff m l h.2, List.map_cons]
theorem retQ_ok {g : Nat} {rs : Array ResultVar} {e : AExit} (vals : List AVal) {gs : GS} (he : e = .normal ∨ e = .ret) (ha : rs.toList.mapM (resultOf env s) = some vals) (hf : vals.all givenOk = true) (hg : s.m.gs = gs) {r : List RV × GS} (hr : r = ((vals.map givenV).map .v, gs)) : RetQ env g base rs r e s := by
  subst hr hg
  refine ⟨he, ?_⟩
  rw [ha, Option.bind_some, gives_ok _ _ _ hf]
  rfl
/-- What is appended to nothing, and only read. -/
theorem aAppend_pure {α : Type} {enc : α → List AVal} {l : List α} {glob : Bool} {key : Nat} {m : Mem} {e sz by_ : Nat} {z : List AVal} (h1 : env.size e = some sz) (h2 : env.bytes e = some by_) (h3 : env.zero e = some z) (h4 : z.length = sz) (h5 : 0 < sz) (h6 : 0 < by_) (hl : ∀ x, (enc x).length = sz) (hf : ∀ x, (enc x).all AVal.fixed = true) (h7 : l.length * by_ ≤ 140737488355328) :
    aAppend env base glob true key m e .e0 (.sl (l.map enc)) = some (.sl (l.map enc), none) := by
  have hall : ((l.map enc).all fun e => e.length == sz && e.all AVal.fixed) = true := List.all_eq_true.2 fun y hy => by
    obtain ⟨x, _, rfl⟩ := List.mem_map.1 hy
    simp only [hl x, hf x, beq_self_eq_true, Bool.and_self]
  have hc : (sz = 0 || by_ = 0 || !((l.map enc).all fun e => e.length == sz && e.all AVal.fixed) || z.length != sz) = false := by
    rw [hall]; simp; omega
  unfold aAppend
  simp only [h1, h2, h3, Mem.elems, Option.bind_some]
  rw [hc]
  simp only [Bool.false_eq_true, if_false, if_true]
  cases l with
  | nil => simp
  | cons x l =>
    have : ((x :: l).map enc).isEmpty = false := rfl
    rw [this]
    simp only [Bool.false_eq_true, if_false]
    rw [if_pos]
    simpa [maxBytes] using h7
/-! ### Functions that write what their callers see. -/
def RetP (env : Env) (g base : Nat) (rs : Array ResultVar) (rv : List RV) (P : GS → Prop) : AExit → St → Prop := fun e s => ∃ gs', RetQ env g base rs (rv, gs') e s ∧ P gs'
theorem evals_walk_ex {g : FuncId} {fn : Func} {c : Code} {args : List AVal} {gs : GS} {rv : List RV} (P : GS → Prop) (nt : Nat) (rs : Array ResultVar) (he : env.ext g = none) (hf : env.funcs g = some fn) (hb : fn.body = some c) (hn : fn.ntmps = nt) (hr : fn.results = rs) (hl : args.length ≤ nt)
    (h : ∀ s, (∀ t, s.get t = args.getD t .undef) → s.m = ⟨⟨[]⟩, gs⟩ → Wp env g base nt c s (RetP env g base rs rv P)) : ∃ gs', Evals env g args base gs (rv, gs') ∧ P gs' := by
  subst hn hr
  obtain ⟨n, e, s', h1, gs', ⟨h2, h3⟩, h4⟩ := h _ (enterFr_get' args _) rfl
  refine ⟨gs', ⟨n + 1, ?_⟩, h4⟩
  unfold call
  simp only [he, hf, hb, if_pos hl, h1]
  rcases h2 with rfl | rfl <;> exact h3
theorem retP_vals {g : Nat} {rs : Array ResultVar} {e : AExit} (vals : List AVal) {P : GS → Prop} (he : e = .normal ∨ e = .ret) (ha : rs.toList.mapM (resultOf env s) = some vals) (hf : vals.all givenOk = true) {rv : List RV} (hr : rv = (vals.map givenV).map .v) (hp : P s.m.gs) : RetP env g base rs rv P e s :=
  ⟨s.m.gs, retQ_ok vals he ha hf rfl (by rw [hr]), hp⟩
/-- The memory with other shared objects. -/
def Mem.withGs (m : Mem) (gs : GS) : Mem := { m with gs := gs }
@[simp] theorem withGs_gs (m : Mem) (gs : GS) : (m.withGs gs).gs = gs := by simp [Mem.withGs]
@[simp] theorem withGs_obj (m : Mem) (gs : GS) (k : Nat) : (m.withGs gs).obj (.loc k) = m.obj (.loc k) := by simp [Mem.withGs, Mem.obj]
theorem wpC_eff {g : FuncId} {m : Mem} {args : List AVal} {rs : List RV} {P : GS → Prop} (he : ∃ gs', Evals env g args base m.gs (rs, gs') ∧ P gs') (hm : s.m = m) (hok : rs.any isRow = false) (hn : rs.length ≤ 4) (heff : env.eff g = true) (hp : args.all plainArg = true)
    (K : ∀ gs', P gs' → dstOk nt d = true ∧ R (true :: fl) (s.upd d (oneV (rs.map seenV)) (some (m.withGs gs')))) : WpC env f base nt d s fl R g (passVs base m args) := by
  subst hm
  obtain ⟨gs', h1, h2⟩ := he
  rw [passVs_plain s.m args hp]
  refine ⟨rs, _, gs', by rw [heff]; exact h1, asSeen_seenV (by simp [hok]), by simpa using hn, ?_⟩
  rw [placeL_vals, heff, anyRow_vals]
  exact K gs' h2
/-- Regions whose order is free, where what turned is known. -/
def flagQ (fl0 : List Bool) (Q : AExit → St → Prop) : St → List Bool → Prop := fun s fl => fl = fl0 ∧ Q .normal s
@[simp] theorem flagQ_eq (fl0 fl : List Bool) : flagQ fl0 Q s fl = (fl = fl0 ∧ Q .normal s) := rfl
theorem aw_region_x {id : Nat} {ops : Array Oper} {draw : Bool} {rs : List Rop} (hr : ops.toList.mapM (resolveG ops) = some rs) (fl0 : List Bool) (hd : drawOk ops fl0 = true)
    (h : WpL env f base nt (flagQ fl0 Q) rs [] s) : Wp env f base nt (.region id ops draw) s Q := by
  refine aw_region ?_
  obtain ⟨n, s', fl, h1, h2, h3⟩ := wpL_wpo _ _ _ _ _ hr h
  simp only [List.reverse_nil, List.nil_append] at h2
  exact ⟨n, s', fl, h1, by rw [h2, hd]; simp, h3⟩
/-- A new shared object. -/
def newGlob (m : Mem) (st : OSt) : Mem := { m with gs := { G := m.gs.G.set .none m.gs.n ⟨0, st⟩, n := m.gs.n + 1 } }
@[simp] theorem newObj_true (key : Nat) (m : Mem) (st : OSt) : newObj true key m st = (.glob m.gs.n, 0, newGlob m st) := rfl
@[simp] theorem newGlob_n (m : Mem) (st : OSt) : (newGlob m st).gs.n = m.gs.n + 1 := by simp [newGlob]
@[simp] theorem newGlob_loc (m : Mem) (st : OSt) (k : Nat) : (newGlob m st).obj (.loc k) = m.obj (.loc k) := by simp [newGlob, Mem.obj]
@[simp] theorem newGlob_glob (m : Mem) (st : OSt) (j : Nat) : (newGlob m st).obj (.glob j) = if j = m.gs.n then ⟨0, st⟩ else m.obj (.glob j) := by
  show (m.gs.G.set .none m.gs.n _).get .none j = _
  rw [Tbl.get_set]; rfl
@[simp] theorem newLoc_glob (key : Nat) (m : Mem) (st : OSt) (j : Nat) : (newLoc key m st).obj (.glob j) = m.obj (.glob j) := by simp [newLoc, Mem.obj]
theorem box1_glob {n : Nat} {x : AVal} {m : Mem} {dd : Nat} (hs : env.site f dd = true) (hl : x.cells.length = n) (h0 : 0 < n) (hc : x.cells.all AVal.isCell = true) (hh : x.cells.all AVal.shared = true) : box1 env f dd m x (some n) = some (.hp (.glob m.gs.n) 0 0 0, some (newGlob m (.box x.cells))) := by
  unfold box1
  simp [hs, hl, h0, hc, hh]
theorem alloc1_glob {n : Nat} {z : List AVal} {m : Mem} {dd : Nat} (hs : env.site f dd = true) (hl : z.length = n) (h0 : 0 < n) : alloc1 env f dd m (some z) (some n) = some (.hp (.glob m.gs.n) 0 0 0, some (newGlob m (.box z))) := by
  unfold alloc1
  simp [hs, hl, h0]
/-- A slice of a slice. -/
def slc (env : Env) (s : St) (t : TypeId) (lo hi mx : Option Operand) (x : AVal) : Option (AVal × Option Mem) :=
  match env.under t, mx with
    | some (.slice e), none => (env.size e).bind fun sz =>
      match x with
      | .sl es => (aHi env s hi es.length).bind fun h => (aLo env s lo h).bind fun l =>
        if (match es with | e :: _ => e.length == sz | [] => true) then some (.sl ((es.take h).drop l), none) else none
      | .hs o g lo0 n => (aHi env s hi n).bind fun h => (aLo env s lo h).bind fun l =>
        if h - l = 0 then some (.sl [], none) else
        let x := s.m.obj o
        if x.gen = g then
          match x.st with
          | .ro sz' _ => if sz' = sz then some (.hs o g (lo0 + l) (h - l), none) else none
          | .row sz' _ => if sz' = sz then some (.hs o g (lo0 + l) (h - l), none) else none
          | _ => none
        else none
      | .e0 => (aHi env s hi 0).bind fun h => (aLo env s lo h).map fun _ => (.e0, none)
      | _ => none
    | _, _ => none
@[simp] theorem aw_sliceOp (t : TypeId) (x : Operand) (lo hi mx : Option Operand) : WpOp env f base nt d (.slice t x lo hi mx) s fl R = WpV nt d s fl R ((aEval env s x).bind (slc env s t lo hi mx)) := rfl
theorem slc_map {α : Type} {enc : α → List AVal} {l : List α} {t e sz h k : Nat} {lo hi : Option Operand} (hu : env.under t = some (.slice e)) (hs : env.size e = some sz) (hl : ∀ x, (enc x).length = sz) (h1 : aHi env s hi l.length = some h) (h2 : aLo env s lo h = some k) :
    slc env s t lo hi none (.sl (l.map enc)) = some (.sl (((l.take h).drop k).map enc), none) := by
  unfold slc
  simp only [hu, hs, Option.bind_some, List.length_map, h1, h2]
  have : (match l.map enc with | e :: _ => e.length == sz | [] => true) = true := by cases l <;> simp [hl]
  rw [this]
  simp
/-! ### Rows that a call hands over. -/
def RowV (m : Mem) (a : AVal) (sz : Nat) (es : List (List AVal)) : Prop :=
  ((a = .e0 ∨ a = .sl []) ∧ es = []) ∨ ∃ k g, a = .hs (.loc k) g 0 es.length ∧ m.obj (.loc k) = ⟨g, .row sz es⟩ ∧ es ≠ []
theorem RowIs.rowV {ks : List Nat} {m : Mem} {a : AVal} {sz : Nat} {es : List (List AVal)} (h : RowIs ks m a sz es) : RowV m a sz es := by
  rcases h with ⟨h1, h2⟩ | ⟨k, g, _, h1, h2, h3⟩
  · exact .inl ⟨.inl h1, h2⟩
  · exact .inr ⟨k, g, h1, h2, h3⟩
theorem giveCells_rowV {m : Mem} {a : AVal} {sz : Nat} {es : List (List AVal)} (h : RowV m a sz es) : ∃ m', giveCells base m a = some (rowRV sz es, m') ∧ m'.gs = m.gs := by
  rcases h with ⟨rfl | rfl, rfl⟩ | ⟨k, g, rfl, ho, hes⟩
  · exact ⟨m, rfl, rfl⟩
  · exact ⟨m, rfl, rfl⟩
  · exact giveCells_row (ks := [k]) (.inr ⟨k, g, by simp, rfl, ho, hes⟩)
theorem retQ_rowV {g sz : Nat} {m : Mem} {rs : Array ResultVar} {e : AExit} {a : AVal} {es : List (List AVal)} (vals : List AVal) {gs : GS} (he : e = .normal ∨ e = .ret) (ha : rs.toList.mapM (resultOf env s) = some (a :: vals)) (hrow : RowV m a sz es) (hm : s.m = m) (hf : vals.all givenOk = true) (hg : s.m.gs = gs) (heff : env.eff g = false) {r : List RV × GS} (hr : r = (rowRV sz es :: (vals.map givenV).map .v, gs)) : RetQ env g base rs r e s := by
  subst hr hm
  refine ⟨he, ?_⟩
  obtain ⟨m', e1, e2⟩ := giveCells_rowV (base := base) hrow
  rw [ha, Option.bind_some, heff]
  unfold gives
  simp only [Bool.false_eq_true, if_false, e1]
  rw [gives_ok _ _ _ hf]
  simp [e2, hg]
theorem wpC_row {g : FuncId} {m : Mem} {args : List AVal} {sz : Nat} {es : List (List AVal)} {vals : List AVal} {gs : GS} {dd : Tmp} (he : Evals env g args m.gs.n m.gs (rowRV sz es :: vals.map .v, gs)) (hm : s.m = m) (hpure : env.pureApp f dd = false) (hsite : env.site f dd = false) (hn : vals.length ≤ 3) (heff : env.eff g = false) (hp : args.all plainArg = true)
    (K : ∀ a mo, RowV ((mo : Option Mem).getD m) a sz es → (mo.getD m).gs = m.gs → (∀ j, j ≠ 4 * dd → (mo.getD m).obj (.loc j) = m.obj (.loc j)) → dstOk nt (some dd) = true ∧ R (mo.isSome :: fl) (s.upd (some dd) (oneV (a :: vals)) mo)) : WpC env f base nt (some dd) s fl R g (passVs base m args) := by
  subst hm
  rw [passVs_plain s.m args hp]
  refine ⟨_, _, gs, by rw [heff]; exact he, by simp only [Option.getD_some, hpure, asSeen, Bool.false_eq_true, if_false]; rfl, by simpa using hn, ?_⟩
  have hpl : ∀ (key : Nat) (m' : Mem) , placeL false key m' (vals.map .v) = (vals, m') := fun key m' => placeL_vals false vals key m'
  have hnr : (vals.map RV.v).any isRow = false := anyRow_vals vals
  by_cases hes : es = []
  · subst hes
    have er : rowRV sz [] = .v (.sl []) := rfl
    simp only [Option.getD_some, hsite, heff, Bool.false_eq_true, if_false, er, placeL, place1, hpl, List.any_cons, isRow, hnr, Bool.or_self]
    exact K (.sl []) none (.inl ⟨.inr rfl, rfl⟩) rfl (fun _ _ => rfl)
  · have er : rowRV sz es = .row sz es := by
      unfold rowRV
      cases es with
      | nil => exact absurd rfl hes
      | cons _ _ => rfl
    simp only [Option.getD_some, hsite, heff, Bool.false_eq_true, if_false, er, placeL, place1, newObj_false, hpl, List.any_cons, isRow, Bool.true_or, Bool.or_true, if_true]
    refine K _ (some (newLoc (4 * dd) s.m (.row sz es))) (.inr ⟨_, _, rfl, by simp, hes⟩) (by simp) (fun j hj => by simp [hj])
/-! ### Shared objects, by what is shared. -/
def gobj (gs : GS) (k : Nat) : AObj := gs.G.get .none k
@[simp] theorem obj_glob (m : Mem) (k : Nat) : m.obj (.glob k) = gobj m.gs k := by simp [Mem.obj, gobj]
@[simp] theorem gobj_newGlob (m : Mem) (st : OSt) (j : Nat) : gobj (newGlob m st).gs j = if j = m.gs.n then ⟨0, st⟩ else gobj m.gs j := by
  show (m.gs.G.set .none m.gs.n _).get .none j = _
  rw [Tbl.get_set]; rfl
@[simp] theorem gobj_put (m : Mem) (k : Nat) (x : AObj) (j : Nat) : gobj (m.put (.glob k) x).gs j = if j = k then x else gobj m.gs j := by
  show (m.gs.G.set .none k x).get .none j = _
  rw [Tbl.get_set]; rfl
@[simp] theorem put_glob_n (m : Mem) (k : Nat) (x : AObj) : (m.put (.glob k) x).gs.n = m.gs.n := by simp [Mem.put]
@[simp] theorem put_glob_loc (m : Mem) (k : Nat) (x : AObj) (j : Nat) : (m.put (.glob k) x).obj (.loc j) = m.obj (.loc j) := by simp [Mem.put, Mem.obj]
theorem wobj_boxG {m : Mem} {k g off : Nat} {cs new : List AVal} (hb : base ≤ k) : wobj base m (.glob k) ⟨g, .box cs⟩ g 0 off new = if new.all AVal.shared then (splice cs off new).map fun cs' => m.put (.glob k) ⟨g, .box cs'⟩ else none := by
  unfold wobj
  simp [mayWrite, hb]
/-- A box with a slice that is appended to, both shared; and a box that is only read. -/
def GOut (base : Nat) (gs : GS) (n1 n2 : Nat) (fn : AVal) (sz : Nat) (es : List (List AVal)) : Prop :=
  base ≤ n2 ∧ n1 < gs.n ∧ n2 < gs.n ∧ n1 ≠ n2 ∧ gobj gs n1 = ⟨0, .box [fn]⟩ ∧
    ((gobj gs n2 = ⟨0, .box [.e0]⟩ ∧ es = []) ∨ ∃ n3 g, base ≤ n3 ∧ n3 < gs.n ∧ n3 ≠ n1 ∧ n3 ≠ n2 ∧ gobj gs n2 = ⟨0, .box [.hs (.glob n3) g 0 es.length]⟩ ∧ gobj gs n3 = ⟨g, .row sz es⟩ ∧ es ≠ [])
/-- What is in the box, as it is handed over. -/
def GOutV (gs : GS) (a : AVal) (sz : Nat) (es : List (List AVal)) (base : Nat) : Prop := (a = .e0 ∧ es = []) ∨ ∃ n3 g, base ≤ n3 ∧ a = .hs (.glob n3) g 0 es.length ∧ gobj gs n3 = ⟨g, .row sz es⟩ ∧ es ≠ []
theorem GOut.val {gs : GS} {n1 n2 : Nat} {fn : AVal} {sz : Nat} {es : List (List AVal)} (h : GOut base gs n1 n2 fn sz es) : ∃ a, gobj gs n2 = ⟨0, .box [a]⟩ ∧ GOutV gs a sz es base ∧ a.shared = true ∧ a.isCell = true := by
  obtain ⟨_, _, _, _, _, ⟨h1, h2⟩ | ⟨n3, g, h1, h2, h3, h4, h5, h6, h7⟩⟩ := h
  · exact ⟨_, h1, .inl ⟨rfl, h2⟩, rfl, rfl⟩
  · exact ⟨_, h5, .inr ⟨n3, g, h1, rfl, h6, h7⟩, rfl, rfl⟩
theorem giveCells_out {m : Mem} {a : AVal} {sz : Nat} {es : List (List AVal)} (h : GOutV m.gs a sz es base) : ∃ m', giveCells base m a = some (rowRV sz es, m') := by
  rcases h with ⟨rfl, rfl⟩ | ⟨n3, g, hb, rfl, ho, hes⟩
  · exact ⟨m, rfl⟩
  · refine ⟨m.put (.glob n3) ⟨g, .dead⟩, ?_⟩
    have : es.isEmpty = false := by cases es <;> simp at hes ⊢
    unfold giveCells rowRV
    simp [ho, mayWrite, this, hb]
/-- A box's slice grows by one. -/
theorem out_append {m : Mem} {n1 n2 : Nat} {fn : AVal} {sz e by_ key : Nat} {z c : List AVal} {es : List (List AVal)} (h : GOut base m.gs n1 n2 fn sz es) (hc : c.length = sz) (hf : c.all AVal.fixed = true) (h1 : env.size e = some sz) (h2 : env.bytes e = some by_) (h3 : env.zero e = some z) (h4 : z.length = sz) (h5 : 0 < sz) (h6 : 0 < by_) (h7 : (es.length + 1) * by_ ≤ maxBytes) (hbn : base ≤ m.gs.n) :
    ∃ a a' m1 m2, gobj m.gs n2 = ⟨0, .box [a]⟩ ∧ a.isCell = true ∧ aAppend env base true false key m e a (.sl [c]) = some (a', some m1) ∧ a'.shared = true ∧ gobj m1.gs n2 = ⟨0, .box [a]⟩ ∧ m2 = m1.put (.glob n2) ⟨0, .box [a']⟩ ∧ GOut base m2.gs n1 n2 fn sz (es ++ [c]) ∧ m.gs.n ≤ m2.gs.n := by
  obtain ⟨b0, b1, b2, b3, b4, h⟩ := h
  have hall : ([c].all fun e => e.length == sz && e.all AVal.fixed) = true := by simp [hc]; simpa using hf
  have hcc : (sz = 0 || by_ = 0 || !([c].all fun e => e.length == sz && e.all AVal.fixed) || z.length != sz) = false := by
    rw [hall]; simp; omega
  have key : ∀ a, aAppend env base true false key m e a (.sl [c]) = (match a with
      | .e0 => if decide ([c].length * by_ ≤ maxBytes) then (let (o, g, m') := newObj true key m (.row sz [c]); some (.hs o g 0 [c].length, some m')) else none
      | .hs o g lo n =>
        let x := m.obj o
        if x.gen = g && mayWrite base o && lo == 0 then
          match x.st with
          | .row sz' es =>
            if sz' = sz && es.length = n && decide ((n + [c].length) * by_ ≤ maxBytes) then
              some (.hs o (g + 1) 0 (n + [c].length), some (m.put o ⟨g + 1, .row sz (es ++ [c])⟩))
            else none
          | _ => none
        else none
      | _ => none) := by
    intro a
    unfold aAppend
    simp only [h1, h2, h3, Mem.elems, Option.bind_some]
    rw [hcc]
    simp only [Bool.false_eq_true, if_false]
    cases a <;> rfl
  rcases h with ⟨o2, rfl⟩ | ⟨n3, g, c1, c2, c3, c4, o2, o3, hes⟩
  · refine ⟨.e0, .hs (.glob m.gs.n) 0 0 1, newGlob m (.row sz [c]), _, o2, rfl, ?_, rfl, ?_, rfl, ?_, by simp⟩
    · rw [key]
      simp at h7
      simp [h7]
    · simp [Nat.ne_of_lt b2, o2]
    · refine ⟨b0, by simp; omega, by simp; omega, b3, ?_, .inr ⟨m.gs.n, 0, hbn, by simp, by omega, by omega, by simp, ?_, by simp⟩⟩
      · simp [b3, Nat.ne_of_lt b1, b4]
      · have hne : m.gs.n ≠ n2 := by omega
        simp [hne]
  · refine ⟨_, .hs (.glob n3) (g + 1) 0 (es.length + 1), m.put (.glob n3) ⟨g + 1, .row sz (es ++ [c])⟩, _, o2, rfl, ?_, rfl, ?_, rfl, ?_, by simp⟩
    · rw [key]
      simp [o3, mayWrite, c1, h7]
    · simp [Ne.symm c4, o2]
    · refine ⟨b0, by simp; omega, by simp; omega, b3, ?_, .inr ⟨n3, g + 1, c1, by simp; omega, c3, c4, by simp, ?_, by simp⟩⟩
      · simp [b3, Ne.symm c3, b4]
      · simp [c4]
theorem or_u64n {a b : Nat} (h1 : a < 18446744073709551616) (h3 : b < 18446744073709551616) : aInt .or .u64 (a : Int) (b : Int) = some (.int .u64 ((a ||| b : Nat) : Int)) := by
  have := or_u64 (a := (a : Int)) (b := (b : Int)) (by omega) (by omega) (by omega) (by omega)
  simpa using this
theorem bv_andNot (x y : BitVec 64) : x &&& ~~~y = x ^^^ (x &&& y) := by
  apply BitVec.eq_of_getLsbD_eq
  intro i hi
  simp only [BitVec.getLsbD_and, BitVec.getLsbD_not, BitVec.getLsbD_xor, hi, decide_true, Bool.true_and]
  cases x.getLsbD i <;> cases y.getLsbD i <;> rfl
theorem andNot_u64n {a b : Nat} (h1 : a < 18446744073709551616) (h3 : b < 18446744073709551616) : aInt .andNot .u64 (a : Int) (b : Int) = some (.int .u64 ((a ^^^ (a &&& b) : Nat) : Int)) := by
  unfold aInt
  simp only
  rw [show IntKind.u64.bits = 64 from rfl, bv_andNot]
  simp only [BitVec.toNat_xor, BitVec.toNat_and]
  rw [ofInt_nat (by omega) (by simpa using (show (a : Int) < 18446744073709551616 by omega)), ofInt_nat (by omega) (by simpa using (show (b : Int) < 18446744073709551616 by omega))]
  simp only [Int.toNat_natCast]
  have h4 : a ^^^ (a &&& b) < 2 ^ 64 := Nat.xor_lt_two_pow (by omega) (Nat.and_lt_two_pow _ (by omega))
  rw [wrap_u64 (by omega) (by omega)]
theorem wpV_out {m : Mem} {gs : GS} {n1 n2 : Nat} {fn a : AVal} {sz e by_ key : Nat} {z c : List AVal} {es : List (List AVal)} (h : GOut base gs n1 n2 fn sz es) (ha : gobj gs n2 = ⟨0, .box [a]⟩) (hm : m.gs = gs) (hc : c.length = sz) (hf : c.all AVal.fixed = true) (h1 : env.size e = some sz) (h2 : env.bytes e = some by_) (h3 : env.zero e = some z) (h4 : z.length = sz) (h5 : 0 < sz) (h6 : 0 < by_) (h7 : (es.length + 1) * by_ ≤ maxBytes) (hbn : base ≤ gs.n)
    (K : ∀ a' m1, a'.shared = true → gobj m1.gs n2 = ⟨0, .box [a]⟩ → GOut base (m1.put (.glob n2) ⟨0, .box [a']⟩).gs n1 n2 fn sz (es ++ [c]) → gs.n ≤ m1.gs.n → dstOk nt d = true ∧ R (true :: fl) (s.upd d a' (some m1))) : WpV nt d s fl R (aAppend env base true false key m e a (.sl [c])) := by
  subst hm
  obtain ⟨a2, a', m1, m2, q1, q2, q3, q4, q5, q6, q7, q8⟩ := out_append (env := env) (key := key) h hc hf h1 h2 h3 h4 h5 h6 h7 hbn
  rw [ha] at q1
  cases q1
  rw [q3]
  subst q6
  exact K a' m1 q4 q5 q7 (by simpa using q8)
theorem shared_cells {a : AVal} (h : a.shared = true) : a.cells = [a] := by
  cases a <;> first | (simp [AVal.shared] at h; done) | rfl
theorem gout_start {m : Mem} {gs : GS} (fn : AVal) (sz : Nat) (hg : m.gs = gs) (hb : base ≤ gs.n) : GOut base (newGlob (newGlob m (.box [fn])) (.box [.e0])).gs gs.n (gs.n + 1) fn sz [] := by
  subst hg
  refine ⟨by omega, by simp; omega, by simp, by omega, by simp, .inl ⟨by simp, rfl⟩⟩
theorem retP_out {g sz : Nat} {rs : Array ResultVar} {e : AExit} {a : AVal} {es : List (List AVal)} (vals : List AVal) (he : e = .normal ∨ e = .ret) (ha : rs.toList.mapM (resultOf env s) = some (a :: vals)) (hf : vals.all givenOk = true) (heff : env.eff g = false) (hv : GOutV s.m.gs a sz es base) {rv : List RV} (hr : rv = rowRV sz es :: (vals.map givenV).map .v) : RetP env g base rs rv (fun _ => True) e s := by
  subst hr
  obtain ⟨m', e1⟩ := giveCells_out (m := s.m) hv
  refine ⟨m'.gs, ⟨he, ?_⟩, trivial⟩
  rw [ha, Option.bind_some, heff]
  unfold gives
  simp only [Bool.false_eq_true, if_false, e1]
  rw [gives_ok _ _ _ hf]
  simp
def max1 : List AVal → Option (AVal × Option Mem)
  | .raw (.int k a) :: l => (aMaxL a l).map fun n => (.raw (.int k n), none)
  | _ => none
@[simp] theorem max1_two (k : IntKind) (a b : Int) : max1 [.raw (.int k a), .raw (.int k b)] = some (.raw (.int k (max a b)), none) := by
  simp only [max1, aMaxL]
  simp
  split <;> omega
@[simp] theorem aw_max (as : Array Operand) (ts : Array TypeId) : WpOp env f base nt d (.call ⟨.builtin .max, as, ts⟩) s fl R = WpV nt d s fl R ((evals env s as.toList).bind max1) := by
  show WpV nt d s fl R ((evals env s as.toList).bind _) = _
  cases h : evals env s as.toList with
  | none => rfl
  | some args =>
    match args with
    | [] => rfl
    | .raw v :: l => cases v <;> rfl
    | .e0 :: l => rfl
    | .sl _ :: l => rfl
    | .hs .. :: l => rfl
    | .hp .. :: l => rfl
    | .ip _ :: l => rfl
    | .clo .. :: l => rfl
    | .iface .. :: l => rfl
    | .agg _ :: l => rfl
    | .tup _ :: l => rfl
    | .undef :: l => rfl
theorem outV_put {m : Mem} {gs : GS} {n1 n2 : Nat} {fn a : AVal} {sz : Nat} {es : List (List AVal)} (hm : m.gs = gs) (h : GOut base gs n1 n2 fn sz es) (ha : gobj gs n2 = ⟨0, .box [a]⟩) : GOutV (m.put (.glob n2) ⟨0, .box [a]⟩).gs a sz es base := by
  subst hm
  obtain ⟨_, _, _, _, _, ⟨h1, h2⟩ | ⟨n3, g, h1, h2, h3, h4, h5, h6, h7⟩⟩ := h
  · rw [h1] at ha; cases ha; exact .inl ⟨rfl, h2⟩
  · rw [h5] at ha; cases ha; exact .inr ⟨n3, g, h1, rfl, by simp [h4, h6], h7⟩
@[simp] theorem shared_e0 : AVal.e0.shared = true := by simp [AVal.shared]
@[simp] theorem shared_int (k : IntKind) (z : Int) : (AVal.raw (.int k z)).shared = true := by simp [AVal.shared, rawCell]
@[simp] theorem shared_bool (b : Bool) : (AVal.raw (.bool b)).shared = true := by simp [AVal.shared, rawCell]
@[simp] theorem shared_sl (es : List (List AVal)) : (AVal.sl es).shared = true := by simp [AVal.shared]
@[simp] theorem shared_hpg (n g i k : Nat) : (AVal.hp (.glob n) g i k).shared = true := by simp [AVal.shared]
@[simp] theorem shared_hsg (n g i k : Nat) : (AVal.hs (.glob n) g i k).shared = true := by simp [AVal.shared]
@[simp] theorem shared_clo0 (d : Nat) : (AVal.clo d [] []).shared = true := by simp [AVal.shared]
@[simp] theorem max1_three (k : IntKind) (a b c : Int) : max1 [.raw (.int k a), .raw (.int k b), .raw (.int k c)] = some (.raw (.int k (max (max a b) c)), none) := by
  simp only [max1, aMaxL]
  simp
  split <;> split <;> omega
/-- A call whose row is shared from then on. -/
theorem wpC_rowG {g : FuncId} {m : Mem} {args : List AVal} {sz : Nat} {es : List (List AVal)} {gs : GS} {dd : Tmp} (he : Evals env g args m.gs.n m.gs ([.row sz es], gs)) (hm : s.m = m) (hpure : env.pureApp f dd = false) (hsite : env.site f dd = true) (heff : env.eff g = false) (hp : args.all plainArg = true)
    (h : dstOk nt (some dd) = true ∧ R (true :: fl) (s.upd (some dd) (.hs (.glob m.gs.n) 0 0 es.length) (some (newGlob m (.row sz es))))) : WpC env f base nt (some dd) s fl R g (passVs base m args) := by
  subst hm
  rw [passVs_plain s.m args hp]
  refine ⟨_, _, gs, by rw [heff]; exact he, by simp only [Option.getD_some, hpure, asSeen, Bool.false_eq_true, if_false]; rfl, by simp, ?_⟩
  simp only [Option.getD_some, Option.getD_none, hsite, heff, Bool.false_eq_true, if_false, placeL, place1, newObj_true, List.any_cons, isRow, Bool.true_or, Bool.or_true, if_true]
  exact h
theorem retP_row {g sz : Nat} {m : Mem} {ks : List Nat} {rs : Array ResultVar} {e : AExit} {a : AVal} {es : List (List AVal)} (vals : List AVal) (he : e = .normal ∨ e = .ret) (ha : rs.toList.mapM (resultOf env s) = some (a :: vals)) (hrow : RowIs ks m a sz es) (hm : s.m = m) (hf : vals.all givenAs = true) (heff : env.eff g = false) {rv : List RV} (hr : rv = rowRV sz es :: vals.map .v) : RetP env g base rs rv (fun _ => True) e s :=
  ⟨s.m.gs, retQ_row vals he ha hrow hm hf rfl heff (by rw [hr]), trivial⟩
end
end Go.Abs
