/-
  THE ABSTRACT INTERPRETER, walked by program: the rules that printed walks name. By this seat's session.
-/
import Derived.Test.YtjcgaelibiiiiaaDoorAbsLaw
import Derived.Test.YtjcgaelibiiiiaaDoorAbsWp
set_option linter.unusedVariables false
set_option linter.unusedSimpArgs false
namespace Go.Abs
section
variable {env : Env} {f base nt : Nat} {s : St} {Q : AExit → St → Prop} {d : Option Tmp} {dd : Tmp} {v : AVal} {fl : List Bool} {R : Rest}
theorem aw_cond_t {k : Nat} {a b : Code} (hb : ∃ t, s.get k = .raw (.bool t)) (h1 : s.get k = .raw (.bool true) → Wp env f base nt a s Q) (h0 : s.get k = .raw (.bool false) → Wp env f base nt b s Q) : Wp env f base nt (.cond (.tmp k) a b) s Q := by
  obtain ⟨t, ht⟩ := hb
  refine aw_cond (t := t) (by simp [ht]) ?_
  cases t
  · exact h0 ht
  · exact h1 ht
theorem aw_cond_1 {k : Nat} {a b : Code} (hb : s.get k = .raw (.bool true)) (h1 : Wp env f base nt a s Q) : Wp env f base nt (.cond (.tmp k) a b) s Q := aw_cond (t := true) (by simp [hb]) h1
theorem aw_cond_0 {k : Nat} {a b : Code} (hb : s.get k = .raw (.bool false)) (h1 : Wp env f base nt b s Q) : Wp env f base nt (.cond (.tmp k) a b) s Q := aw_cond (t := false) (by simp [hb]) h1
theorem wpG_split {op : Op} {w : Bool} {A : AVal} (hb : ∃ t, A = .raw (.bool t)) (h1 : A = .raw (.bool true) → WpG env f base nt d op w s fl R (.raw (.bool true))) (h0 : A = .raw (.bool false) → WpG env f base nt d op w s fl R (.raw (.bool false))) : WpG env f base nt d op w s fl R A := by
  obtain ⟨t, rfl⟩ := hb
  cases t
  · exact h0 rfl
  · exact h1 rfl
theorem placeL_vals (g : Bool) : ∀ (vs : List AVal) (key : Nat) (m : Mem), placeL g key m (vs.map .v) = (vs, m)
  | [], _, _ => rfl
  | a :: l, key, m => by simp [placeL, place1, placeL_vals g l]
theorem anyRow_vals : ∀ vs : List AVal, (vs.map RV.v).any isRow = false
  | [] => rfl
  | a :: l => by simp [isRow]
/-- What a caller sees that only reads it. -/
def seenV : RV → AVal
  | .v a => a
  | .row _ es => .sl es
@[simp] theorem seenV_v (a : AVal) : seenV (.v a) = a := rfl
@[simp] theorem seenV_row (sz : Nat) (es : List (List AVal)) : seenV (.row sz es) = .sl es := rfl
/-- A row that was made by appending. -/
def rowRV (sz : Nat) (es : List (List AVal)) : RV := if es.isEmpty then .v (.sl []) else .row sz es
@[simp] theorem seenV_rowRV (sz : Nat) (es : List (List AVal)) : seenV (rowRV sz es) = .sl es := by
  unfold rowRV
  cases es <;> rfl
theorem asSeen_seenV {pr : Bool} {rs : List RV} (h : (pr || !rs.any isRow) = true) : asSeen pr rs = (rs.map seenV).map .v := by
  unfold asSeen
  cases pr with
  | true => simp only [if_true, List.map_map]; congr 1; funext r; cases r <;> rfl
  | false =>
    simp only [Bool.false_eq_true, if_false]
    simp only [Bool.false_or, Bool.not_eq_true'] at h
    induction rs with
    | nil => rfl
    | cons r rs ih =>
      simp only [List.any_cons, Bool.or_eq_false_iff] at h
      cases r with
      | v a => simp only [List.map_cons, seenV_v]; rw [← ih h.2]
      | row sz es => simp [isRow] at h
/-- A call of a function that writes nothing of its callers', its answers only read. -/
theorem wpC_vals {g : FuncId} {m : Mem} {args : List AVal} {rs : List RV} {gs : GS} (he : Evals env g args m.gs.n m.gs (rs, gs)) (hm : s.m = m) (hok : (env.pureApp f (d.getD 0) || !rs.any isRow) = true) (hn : rs.length ≤ 4) (heff : env.eff g = false) (hp : args.all plainArg = true) (h : dstOk nt d = true ∧ R (false :: fl) (s.upd d (oneV (rs.map seenV)) none)) : WpC env f base nt d s fl R g (passVs base m args) := by
  subst hm
  rw [passVs_plain s.m args hp]
  refine ⟨rs, _, gs, ?_, asSeen_seenV hok, by simpa using hn, ?_⟩
  · rw [heff]; exact he
  · rw [placeL_vals, heff, anyRow_vals]
    exact h
@[simp] theorem oneV_two (a b : AVal) : oneV [a, b] = .tup [a, b] := rfl
@[simp] theorem oneV_one (a : AVal) : oneV [a] = a := rfl
@[simp] theorem oneV_three (a b c : AVal) : oneV [a, b, c] = .tup [a, b, c] := rfl
@[simp] theorem oneV_four (a b c d : AVal) : oneV [a, b, c, d] = .tup [a, b, c, d] := rfl
theorem aInd_int (n : Nat) (k : IntKind) (z : Int) (h0 : 0 ≤ z) (h : z < n) : aInd n (.raw (.int k z)) = some z.toNat := by
  unfold aInd
  simp only
  rw [if_pos (by simp; omega)]
theorem idx_map {α : Type} {t e : TypeId} {sz : Nat} {enc : α → List AVal} {l : List α} {k : IntKind} {z : Int} {m : Mem} (hu : env.under t = some (.slice e)) (hs : env.size e = some sz) (h0 : 0 ≤ z) (h : z < l.length) (hl : ∀ x, (enc x).length = sz) (hz : 0 < sz) :
    idx env m t (.sl (l.map enc)) (.raw (.int k z)) = some (.ip (enc (l[z.toNat]'(by omega))), none) :=
  idx_sl (k := z.toNat) hu hs (aInd_int _ _ _ h0 (by simpa using h)) (by simp [show z.toNat < l.length by omega]) (hl _) hz m
theorem sub_all (cs : List AVal) (n : Nat) (h : cs.length = n) : sub cs 0 n = some cs := by subst h; simp [sub]
theorem splice_all (cs new : List AVal) (h : cs.length = new.length) : splice cs 0 new = some new := by
  unfold splice; simp [h]
@[simp] theorem sub_cons (a : AVal) (l : List AVal) (n : Nat) : sub (a :: l) 0 (n + 1) = (sub l 0 n).map (a :: ·) := by
  unfold sub
  by_cases h : n ≤ l.length <;> simp [h]
@[simp] theorem sub_zero (l : List AVal) : sub l 0 0 = some [] := by simp [sub]
@[simp] theorem sub_off (a : AVal) (l : List AVal) (o n : Nat) : sub (a :: l) (o + 1) n = sub l o n := by
  unfold sub
  by_cases h : o + n ≤ l.length
  · simp [h, show o + 1 + n ≤ l.length + 1 by omega]
  · simp [h, show ¬ o + 1 + n ≤ l.length + 1 by omega]
@[simp] theorem aLen_slice (t : TypeId) (es : List (List AVal)) (e : TypeId) (h : env.under t = some (.slice e)) : aLen env (some t) (.sl es) = some (.raw (.int .i64 es.length)) := by
  simp [aLen, h]
theorem pack_one (t : TypeId) (c : AVal) (h : env.isAgg t = some false) : env.pack t [c] = some c := by simp [Env.pack, h]
theorem pack_agg' (t : TypeId) (cs : List AVal) (h : env.isAgg t = some true) : env.pack t cs = some (.agg cs) := by simp [Env.pack, h]
theorem aw_inv2 {b : Code} (I : Nat → St → Prop) (h0 : ∃ k, I k s) (hb : ∀ k s, I k s → Wp env f base nt b s (invQ I k Q)) : Wp env f base nt (.loop b) s Q := by
  obtain ⟨k, hk⟩ := h0
  exact aw_inv I k hk hb
theorem retQ_vals {g : Nat} {rs : Array ResultVar} {e : AExit} (vals : List AVal) {gs : GS} (he : e = .normal ∨ e = .ret) (ha : rs.toList.mapM (resultOf env s) = some vals) (hf : vals.all givenAs = true) (hg : s.m.gs = gs) {r : List RV × GS} (hr : r = (vals.map .v, gs)) : RetQ env g base rs r e s := retQ_as he ha hf hg hr
/-- A branch, by what its condition is. -/
def CondV (env : Env) (f base nt : Nat) (a b : Code) (s : St) (Q : AExit → St → Prop) (A : AVal) : Prop := ∃ t, A = .raw (.bool t) ∧ Wp env f base nt (if t then a else b) s Q
theorem aw_cond_v {k : Nat} {a b : Code} (h : CondV env f base nt a b s Q (s.get k)) : Wp env f base nt (.cond (.tmp k) a b) s Q := by
  obtain ⟨t, ht, h⟩ := h
  exact aw_cond (t := t) (by simp [ht]) h
theorem condV_split {a b : Code} {A : AVal} (hb : ∃ t, A = .raw (.bool t)) (h1 : A = .raw (.bool true) → Wp env f base nt a s Q) (h0 : A = .raw (.bool false) → Wp env f base nt b s Q) : CondV env f base nt a b s Q A := by
  obtain ⟨t, rfl⟩ := hb
  refine ⟨t, rfl, ?_⟩
  cases t
  · exact h0 rfl
  · exact h1 rfl
theorem condV_1 {a b : Code} {A : AVal} (hb : A = .raw (.bool true)) (h1 : Wp env f base nt a s Q) : CondV env f base nt a b s Q A := ⟨true, hb, h1⟩
theorem condV_0 {a b : Code} {A : AVal} (hb : A = .raw (.bool false)) (h1 : Wp env f base nt b s Q) : CondV env f base nt a b s Q A := ⟨false, hb, h1⟩
@[simp] theorem aInt_add (k : IntKind) (a b : Int) : aInt .add k a b = some (.int k (k.wrap (a + b))) := rfl
@[simp] theorem aInt_sub (k : IntKind) (a b : Int) : aInt .sub k a b = some (.int k (k.wrap (a - b))) := rfl
@[simp] theorem aInt_mul (k : IntKind) (a b : Int) : aInt .mul k a b = some (.int k (k.wrap (a * b))) := rfl
@[simp] theorem aInt_quo (k : IntKind) (a b : Int) : aInt .quo k a b = if b = 0 then none else some (.int k (k.wrap (a.tdiv b))) := rfl
@[simp] theorem aInt_rem (k : IntKind) (a b : Int) : aInt .rem k a b = if b = 0 then none else some (.int k (a.tmod b)) := rfl
@[simp] theorem aInt_eql (k : IntKind) (a b : Int) : aInt .eql k a b = some (.bool (decide (a = b))) := rfl
@[simp] theorem aInt_neq (k : IntKind) (a b : Int) : aInt .neq k a b = some (.bool (!decide (a = b))) := rfl
@[simp] theorem aInt_lss (k : IntKind) (a b : Int) : aInt .lss k a b = some (.bool (decide (a < b))) := rfl
@[simp] theorem aInt_leq (k : IntKind) (a b : Int) : aInt .leq k a b = some (.bool (decide (a ≤ b))) := rfl
@[simp] theorem aInt_gtr (k : IntKind) (a b : Int) : aInt .gtr k a b = some (.bool (decide (b < a))) := rfl
@[simp] theorem aInt_geq (k : IntKind) (a b : Int) : aInt .geq k a b = some (.bool (decide (b ≤ a))) := rfl
def app1 (env : Env) (base f d : Nat) (m : Mem) (ts : Array TypeId) : List AVal → Option (AVal × Option Mem)
  | [x, y] => (if ts.size = 2 && ts.getD 0 0 == ts.getD 1 1 then env.elemOf (ts.getD 0 0) else none).bind fun e => aAppend env base (env.site f d) (env.pureApp f d) (4 * d) m e x y
  | _ => none
@[simp] theorem app1_two (m : Mem) (t : TypeId) (x y : AVal) : app1 env base f dd m #[t, t] [x, y] = (env.elemOf t).bind fun e => aAppend env base (env.site f dd) (env.pureApp f dd) (4 * dd) m e x y := by
  simp [app1]
@[simp] theorem aw_append (as : Array Operand) (ts : Array TypeId) : WpOp env f base nt (some dd) (.call ⟨.builtin .append, as, ts⟩) s fl R = WpV nt (some dd) s fl R ((evals env s as.toList).bind (app1 env base f dd s.m ts)) := by
  show WpV nt (some dd) s fl R ((evals env s as.toList).bind _) = _
  cases h : evals env s as.toList with
  | none => rfl
  | some args => match args with
    | [] => rfl
    | [x] => rfl
    | [x, y] => rfl
    | _ :: _ :: _ :: _ => rfl
/-- A slice literal. -/
def bsl (env : Env) (base f d : Nat) (m : Mem) (t : TypeId) (len : Nat) : Option (List (Nat × AVal)) → Option (AVal × Option Mem)
  | some ps => (env.elemOf t).bind fun e => (env.size e).bind fun sz => (env.zero e).bind fun z =>
    if len = 0 then (if ps.isEmpty then some (.e0, none) else none)
    else if sz = 0 || z.length != sz || ps.length != len || decide (16777216 < len * sz) then none
    else (aElems base sz m 0 ps).map fun (es, m1) =>
      if env.site f d then let (o, g, m') := newObj true (4 * d) (m1.getD m) (.row sz es); (.hs o g 0 es.length, some m') else (.sl es, m1)
  | none => none
@[simp] theorem aw_buildSlice (t : TypeId) (len : Nat) (ps : Array (Nat × Operand)) : WpOp env f base nt (some dd) (.buildSlice t len ps) s fl R = WpV nt (some dd) s fl R (bsl env base f dd s.m t len (evalParts env s ps.toList)) := by
  show WpV nt (some dd) s fl R ((env.elemOf t).bind fun e => (env.size e).bind fun sz => (env.zero e).bind fun z => (evalParts env s ps.toList).bind _) = _
  cases evalParts env s ps.toList with
  | none =>
    show WpV nt (some dd) s fl R _ = WpV nt (some dd) s fl R none
    congr 1
    cases env.elemOf t with
    | none => rfl
    | some e =>
      simp only [Option.bind_some]
      cases env.size e with
      | none => rfl
      | some z => simp only [Option.bind_some]; cases env.zero e <;> rfl
  | some l => rfl
@[simp] theorem bsl_nil (m : Mem) (t e : TypeId) (h : env.elemOf t = some e) (h2 : (env.size e).isSome = true) (h3 : (env.zero e).isSome = true) : bsl env base f dd m t 0 (some []) = some (.e0, none) := by
  obtain ⟨a, ha⟩ := Option.isSome_iff_exists.1 h2
  obtain ⟨b, hb⟩ := Option.isSome_iff_exists.1 h3
  simp [bsl, h, ha, hb]
/-- A literal of one element of cells that are plain. -/
theorem bsl_one (m : Mem) {t e sz : Nat} {z : List AVal} {a : AVal} (hs : env.site f dd = false) (he : env.elemOf t = some e) (h2 : env.size e = some sz) (h3 : env.zero e = some z) (hz : z.length = sz) (h0 : 0 < sz) (hb : sz ≤ 16777216) (hl : a.cells.length = sz) (hf : a.cells.all AVal.fixed = true) : bsl env base f dd m t 1 (some [(0, a)]) = some (.sl [a.cells], none) := by
  unfold bsl
  simp only [he, h2, h3, hs, Option.bind_some]
  have e1 : (sz = 0 || z.length != sz || [(0, a)].length != 1 || decide (16777216 < 1 * sz)) = false := by simp; omega
  simp only [Nat.one_ne_zero, if_false, e1, Bool.false_eq_true]
  unfold aElems
  simp [hl, frzL_fixed m _ hf, aElems, orM]
def bld (env : Env) (t : TypeId) (z : Option (List AVal)) (ps : Option (List (Nat × AVal))) : Option (AVal × Option Mem) :=
  ps.bind fun ps => z.bind fun z =>
    match env.isAgg t with
    | some true => (aFill (placeIn env t) z ps).map fun cs => (.agg cs, none)
    | _ => none
@[simp] theorem aw_buildOp (t : TypeId) (ps : Array (Nat × Operand)) : WpOp env f base nt d (.build t ps) s fl R = WpV nt d s fl R (bld env t (env.zero t) (evalParts env s ps.toList)) := rfl
/-! ### A row that is made by appending. -/
/-- What is appended to: nothing yet, or a row of one's own under one of some keys. -/
def RowIs (ks : List Nat) (m : Mem) (a : AVal) (sz : Nat) (es : List (List AVal)) : Prop :=
  (a = .e0 ∧ es = []) ∨ ∃ k g, k ∈ ks ∧ a = .hs (.loc k) g 0 es.length ∧ m.obj (.loc k) = ⟨g, .row sz es⟩ ∧ es ≠ []
theorem RowIs.start (ks : List Nat) (m : Mem) (sz : Nat) : RowIs ks m .e0 sz [] := .inl ⟨rfl, rfl⟩
@[simp] theorem rowIs_e0 (ks : List Nat) (m : Mem) (sz : Nat) : RowIs ks m .e0 sz [] = True := eq_true (.inl ⟨rfl, rfl⟩)
theorem RowIs.keep {ks : List Nat} {m m' : Mem} {a : AVal} {sz : Nat} {es : List (List AVal)} (h : RowIs ks m a sz es) (hk : ∀ k ∈ ks, m'.obj (.loc k) = m.obj (.loc k)) : RowIs ks m' a sz es := by
  rcases h with h | ⟨k, g, h1, h2, h3, h4⟩
  · exact .inl h
  · exact .inr ⟨k, g, h1, h2, by rw [hk k h1]; exact h3, h4⟩
@[simp] theorem rowIs_newLoc {ks : List Nat} {m : Mem} {a : AVal} {sz k : Nat} {st : OSt} {es : List (List AVal)} (hk : k ∉ ks) : RowIs ks (newLoc k m st) a sz es = RowIs ks m a sz es := by
  have e : ∀ j ∈ ks, (newLoc k m st).obj (.loc j) = m.obj (.loc j) := fun j hj => by
    rw [newLoc_obj, if_neg]; rintro rfl; exact hk hj
  exact propext ⟨fun h => h.keep fun j hj => (e j hj).symm, fun h => h.keep e⟩
@[simp] theorem rowIs_put {ks : List Nat} {m : Mem} {a : AVal} {sz k : Nat} {x : AObj} {es : List (List AVal)} (hk : k ∉ ks) : RowIs ks (m.put (.loc k) x) a sz es = RowIs ks m a sz es := by
  have e : ∀ j ∈ ks, (m.put (.loc k) x).obj (.loc j) = m.obj (.loc j) := fun j hj => by
    rw [put_loc_obj, if_neg]; rintro rfl; exact hk hj
  exact propext ⟨fun h => h.keep fun j hj => (e j hj).symm, fun h => h.keep e⟩
theorem aAppend_row {ks : List Nat} {m : Mem} {a : AVal} {sz e by_ key : Nat} {z : List AVal} {es ys : List (List AVal)} (h : RowIs ks m a sz es) (hk : key ∈ ks) (hy : ys ≠ [])
    (hyl : ∀ y ∈ ys, y.length = sz ∧ y.all AVal.fixed = true) (h1 : env.size e = some sz) (h2 : env.bytes e = some by_) (h3 : env.zero e = some z) (h4 : z.length = sz) (h5 : 0 < sz) (h6 : 0 < by_) (h7 : (es.length + ys.length) * by_ ≤ maxBytes) :
    ∃ a' m', aAppend env base false false key m e a (.sl ys) = some (a', some m') ∧ RowIs ks m' a' sz (es ++ ys) ∧ m'.gs = m.gs ∧ ∀ j, j ∉ ks → m'.obj (.loc j) = m.obj (.loc j) := by
  have hall : (ys.all fun e => e.length == sz && e.all AVal.fixed) = true := List.all_eq_true.2 fun y hy => by simp only [(hyl y hy).1, (hyl y hy).2, beq_self_eq_true, Bool.and_self]
  have hc : (sz = 0 || by_ = 0 || !(ys.all fun e => e.length == sz && e.all AVal.fixed) || z.length != sz) = false := by
    rw [hall]; simp; omega
  have hne : (es ++ ys) ≠ [] := by simp [hy]
  unfold aAppend
  simp only [h1, h2, h3, Mem.elems, Option.bind_some]
  rw [hc]
  simp only [Bool.false_eq_true, if_false]
  rcases h with ⟨rfl, rfl⟩ | ⟨k, g, hkk, rfl, ho, hes⟩
  · simp only [List.length_nil, Nat.zero_add] at h7
    have hey : ys.isEmpty = false := by cases ys <;> simp at hy ⊢
    simp only [hey, Bool.false_eq_true, if_false, h7, decide_true, if_true, newObj_false]
    refine ⟨_, _, rfl, .inr ⟨key, genOf m key, hk, rfl, by simp, hne⟩, rfl, fun j hj => ?_⟩
    rw [newLoc_obj, if_neg]; rintro rfl; exact hj hk
  · simp only [ho, mayWrite, Bool.and_true, decide_true, beq_self_eq_true, if_true, h7]
    refine ⟨_, _, rfl, .inr ⟨k, g + 1, hkk, by simp, by simp, hne⟩, rfl, fun j hj => ?_⟩
    rw [put_loc_obj, if_neg]; rintro rfl; exact hj hkk
theorem wpV_append {ks : List Nat} {m : Mem} {a : AVal} {sz e by_ key : Nat} {z : List AVal} {es ys : List (List AVal)} (h : RowIs ks m a sz es) (hk : key ∈ ks) (hy : ys ≠ [])
    (hyl : ∀ y ∈ ys, y.length = sz ∧ y.all AVal.fixed = true) (h1 : env.size e = some sz) (h2 : env.bytes e = some by_) (h3 : env.zero e = some z) (h4 : z.length = sz) (h5 : 0 < sz) (h6 : 0 < by_) (h7 : (es.length + ys.length) * by_ ≤ maxBytes)
    (K : ∀ a' m', RowIs ks m' a' sz (es ++ ys) → m'.gs = m.gs → (∀ j, j ∉ ks → m'.obj (.loc j) = m.obj (.loc j)) → dstOk nt d = true ∧ R (true :: fl) (s.upd d a' (some m'))) : WpV nt d s fl R (aAppend env base false false key m e a (.sl ys)) := by
  obtain ⟨a', m', e1, e2, e3, e4⟩ := aAppend_row (base := base) h hk hy hyl h1 h2 h3 h4 h5 h6 h7
  rw [e1]
  exact K a' m' e2 e3 e4
theorem giveCells_row {ks : List Nat} {m : Mem} {a : AVal} {sz : Nat} {es : List (List AVal)} (h : RowIs ks m a sz es) : ∃ m', giveCells base m a = some (rowRV sz es, m') ∧ m'.gs = m.gs := by
  rcases h with ⟨rfl, rfl⟩ | ⟨k, g, hkk, rfl, ho, hes⟩
  · exact ⟨m, rfl, rfl⟩
  · refine ⟨m.put (.loc k) ⟨g, .dead⟩, ?_, rfl⟩
    unfold giveCells rowRV
    have : es.isEmpty = false := by cases es <;> simp at hes ⊢
    simp [ho, mayWrite, this]
theorem retQ_row {g sz : Nat} {m : Mem} {ks : List Nat} {rs : Array ResultVar} {e : AExit} {a : AVal} {es : List (List AVal)} (vals : List AVal) {gs : GS} (he : e = .normal ∨ e = .ret) (ha : rs.toList.mapM (resultOf env s) = some (a :: vals)) (hrow : RowIs ks m a sz es) (hm : s.m = m) (hf : vals.all givenAs = true) (hg : s.m.gs = gs) (heff : env.eff g = false) {r : List RV × GS} (hr : r = (rowRV sz es :: vals.map .v, gs)) : RetQ env g base rs r e s := by
  subst hr hm
  refine ⟨he, ?_⟩
  obtain ⟨m', e1, e2⟩ := giveCells_row (base := base) hrow
  rw [ha, Option.bind_some, heff]
  unfold gives
  simp only [Bool.false_eq_true, if_false, e1]
  rw [gives_as _ _ _ hf]
  simp [e2, hg]
@[simp] theorem cells_raw (v : Value) : (AVal.raw v).cells = [.raw v] := by simp [AVal.cells]
@[simp] theorem cells_agg (cs : List AVal) : (AVal.agg cs).cells = cs := by simp [AVal.cells]
@[simp] theorem cells_sl (es : List (List AVal)) : (AVal.sl es).cells = [.sl es] := by simp [AVal.cells]
@[simp] theorem cells_e0 : (AVal.e0).cells = [.e0] := by simp [AVal.cells]
@[simp] theorem cells_hs (o : OId) (g lo n : Nat) : (AVal.hs o g lo n).cells = [.hs o g lo n] := by simp [AVal.cells]
@[simp] theorem cells_hp (o : OId) (g i k : Nat) : (AVal.hp o g i k).cells = [.hp o g i k] := by simp [AVal.cells]
@[simp] theorem cells_clo (g : FuncId) (a b : List AVal) : (AVal.clo g a b).cells = [.clo g a b] := by simp [AVal.cells]
@[simp] theorem fixed_int (k : IntKind) (z : Int) : (AVal.raw (.int k z)).fixed = true := by simp [AVal.fixed, rawCell]
@[simp] theorem fixed_bool (b : Bool) : (AVal.raw (.bool b)).fixed = true := by simp [AVal.fixed, rawCell]
@[simp] theorem fixed_string (b : ByteArray) : (AVal.raw (.string b)).fixed = true := by simp [AVal.fixed, rawCell]
@[simp] theorem fixed_sl (es : List (List AVal)) : (AVal.sl es).fixed = true := by simp [AVal.fixed]
@[simp] theorem isCell_int (k : IntKind) (z : Int) : (AVal.raw (.int k z)).isCell = true := by simp [AVal.isCell, rawCell]
@[simp] theorem isCell_bool (b : Bool) : (AVal.raw (.bool b)).isCell = true := by simp [AVal.isCell, rawCell]
@[simp] theorem isCell_string (b : ByteArray) : (AVal.raw (.string b)).isCell = true := by simp [AVal.isCell, rawCell]
@[simp] theorem isCell_sl (es : List (List AVal)) : (AVal.sl es).isCell = true := by simp [AVal.isCell]
@[simp] theorem isCell_e0 : (AVal.e0).isCell = true := by simp [AVal.isCell]
@[simp] theorem isCell_hs (o : OId) (g lo n : Nat) : (AVal.hs o g lo n).isCell = true := by simp [AVal.isCell]
@[simp] theorem isCell_hp (o : OId) (g i k : Nat) : (AVal.hp o g i k).isCell = true := by simp [AVal.isCell]
@[simp] theorem isCell_clo (g : FuncId) (a b : List AVal) : (AVal.clo g a b).isCell = true := by simp [AVal.isCell]
theorem wrap_u64 {z : Int} (h0 : 0 ≤ z) (h1 : z < 18446744073709551616) : IntKind.u64.wrap z = z := by
  unfold IntKind.wrap
  simp only [IntKind.bits, IntKind.signed, Bool.false_and, Bool.false_eq_true, if_false]
  omega
theorem wrap_u8 {z : Int} (h0 : 0 ≤ z) (h1 : z < 256) : IntKind.u8.wrap z = z := by
  unfold IntKind.wrap
  simp only [IntKind.bits, IntKind.signed, Bool.false_and, Bool.false_eq_true, if_false]
  omega
theorem tmod_nn {a b : Int} (h : 0 ≤ a) : a.tmod b = a % b := Int.tmod_eq_emod_of_nonneg h
theorem tdiv_nn {a b : Int} (h : 0 ≤ a) : a.tdiv b = a / b := Int.tdiv_eq_ediv_of_nonneg h
theorem pow2_ne (k : Nat) : ((2 ^ k : Nat) : Int) ≠ 0 := by
  have : 0 < 2 ^ k := Nat.pow_pos (by decide)
  omega
theorem pow2_ne_i (k : Nat) : (2 : Int) ^ k ≠ 0 := by
  have := pow2_ne k
  rwa [Int.natCast_pow] at this
theorem fdiv_nn {a b : Int} (h : 0 ≤ b) : a.fdiv b = a / b := Int.fdiv_eq_ediv_of_nonneg a h
theorem shr_u64 {a b : Int} (h0 : 0 ≤ b) (h1 : b < 64) : aShift .shr .u64 a b = some (.int .u64 (a / 2 ^ b.toNat)) := by
  unfold aShift
  rw [if_neg (by omega)]
  have : min b.toNat IntKind.u64.bits = b.toNat := by simp [IntKind.bits]; omega
  simp only [this]
  rw [Int.fdiv_eq_ediv_of_nonneg _ (Int.le_of_lt (Int.pow_pos (by decide)))]
theorem shl_u64 {a b : Int} (h0 : 0 ≤ b) (h1 : b ≤ 64) : aShift .shl .u64 a b = some (.int .u64 (IntKind.u64.wrap (a * 2 ^ b.toNat))) := by
  unfold aShift
  rw [if_neg (by omega)]
  have : min b.toNat IntKind.u64.bits = b.toNat := by simp [IntKind.bits]; omega
  simp only [this]
theorem ofInt_nat {n : Nat} {a : Int} (h0 : 0 ≤ a) (h1 : a < 2 ^ n) : (BitVec.ofInt n a).toNat = a.toNat := by
  rw [BitVec.toNat_ofInt]
  rw [Int.emod_eq_of_lt h0 (by rw [Int.natCast_pow]; exact h1)]
theorem and_u64 {a b : Int} (h0 : 0 ≤ a) (h1 : a < 18446744073709551616) (h2 : 0 ≤ b) (h3 : b < 18446744073709551616) : aInt .and .u64 a b = some (.int .u64 ((a.toNat &&& b.toNat : Nat) : Int)) := by
  unfold aInt
  simp only [BitVec.toNat_and]
  rw [show IntKind.u64.bits = 64 from rfl, ofInt_nat h0 (by simpa using h1), ofInt_nat h2 (by simpa using h3)]
  have := Nat.and_le_left (n := a.toNat) (m := b.toNat)
  rw [wrap_u64 (by omega) (by omega)]
theorem or_u64 {a b : Int} (h0 : 0 ≤ a) (h1 : a < 18446744073709551616) (h2 : 0 ≤ b) (h3 : b < 18446744073709551616) : aInt .or .u64 a b = some (.int .u64 ((a.toNat ||| b.toNat : Nat) : Int)) := by
  unfold aInt
  simp only [BitVec.toNat_or]
  rw [show IntKind.u64.bits = 64 from rfl, ofInt_nat h0 (by simpa using h1), ofInt_nat h2 (by simpa using h3)]
  have : a.toNat ||| b.toNat < 2 ^ 64 := Nat.or_lt_two_pow (by omega) (by omega)
  rw [wrap_u64 (by omega) (by omega)]
theorem and1_u64 {a : Int} : aInt .and .u64 a 1 = some (.int .u64 (a % 2)) := by
  unfold aInt
  simp only [BitVec.toNat_and]
  rw [show IntKind.u64.bits = 64 from rfl, ofInt_nat (n := 64) (a := 1) (by decide) (by decide)]
  rw [show (1 : Int).toNat = 1 from rfl, Nat.and_one_is_mod, BitVec.toNat_ofInt]
  rw [wrap_u64 (by omega) (by omega)]
  congr 2
  omega
/-! ### Writes. -/
def wobj (base : Nat) (m : Mem) (o : OId) (x : AObj) (g i off : Nat) (new : List AVal) : Option Mem :=
  if x.gen = g && mayWrite base o then
    match x.st with
    | .row _ _ =>
      (frzL base m new).bind fun (new, m1) =>
        let m' := m1.getD m
        let y := m'.obj o
        if y.gen = g then
          match y.st with
          | .row sz es => (es[i]?).bind fun e => (splice e off new).map fun e' => m'.put o ⟨g, .row sz (es.set i e')⟩
          | _ => none
        else none
    | .box cs =>
      if i = 0 then
        match o with
        | .loc _ => if new.all AVal.isCell then (splice cs off new).map fun cs' => m.put o ⟨g, .box cs'⟩ else none
        | .glob _ => if new.all AVal.shared then (splice cs off new).map fun cs' => m.put o ⟨g, .box cs'⟩ else none
      else none
    | _ => none
  else none
@[simp] theorem write_eq (m : Mem) (o : OId) (g i off : Nat) (new : List AVal) : m.write base o g i off new = wobj base m o (m.obj o) g i off new := rfl
@[simp] theorem wobj_box (m : Mem) (k g off : Nat) (cs new : List AVal) : wobj base m (.loc k) ⟨g, .box cs⟩ g 0 off new = if new.all AVal.isCell then (splice cs off new).map fun cs' => m.put (.loc k) ⟨g, .box cs'⟩ else none := by
  unfold wobj
  simp [mayWrite]
theorem wobj_row {m : Mem} {k g i off sz : Nat} {es : List (List AVal)} {new : List AVal} (ho : m.obj (.loc k) = ⟨g, .row sz es⟩) (hn : new.all AVal.fixed = true) : wobj base m (.loc k) ⟨g, .row sz es⟩ g i off new = (es[i]?).bind fun e => (splice e off new).map fun e' => m.put (.loc k) ⟨g, .row sz (es.set i e')⟩ := by
  unfold wobj
  simp [mayWrite, frzL_fixed m new hn, ho]
theorem int_beq (a b : Int) : (a == b) = decide (a = b) := rfl
theorem wrap_u64_range (z : Int) : 0 ≤ IntKind.u64.wrap z ∧ IntKind.u64.wrap z < 18446744073709551616 := by
  unfold IntKind.wrap
  simp only [IntKind.bits, IntKind.signed, Bool.false_and, Bool.false_eq_true, if_false]
  omega
theorem and_u64n {a b : Nat} (h1 : a < 18446744073709551616) (h3 : b < 18446744073709551616) : aInt .and .u64 (a : Int) (b : Int) = some (.int .u64 ((a &&& b : Nat) : Int)) := by
  have := and_u64 (a := (a : Int)) (b := (b : Int)) (by omega) (by omega) (by omega) (by omega)
  simpa using this
theorem and127_i64 {a : Int} : aInt .and .i64 a 127 = some (.int .i64 (a % 128)) := by
  unfold aInt
  simp only [BitVec.toNat_and]
  rw [show IntKind.i64.bits = 64 from rfl, ofInt_nat (n := 64) (a := 127) (by decide) (by decide)]
  rw [show (127 : Int).toNat = 2 ^ 7 - 1 from rfl, Nat.and_two_pow_sub_one_eq_mod, BitVec.toNat_ofInt]
  rw [wrap_i64 (by omega) (by omega)]
  congr 2
  omega
/-! ### Ends that hand over nothing. -/
def givenV : AVal → AVal
  | .e0 => .sl []
  | a => a
def givenOk : AVal → Bool
  | .e0 => true
  | a => givenAs a
theorem give_ok (eff : Bool) (m : Mem) {a : AVal} (h : givenOk a = true) : (if eff then giveShared base m a else giveCells base m a) = some (.v (givenV a), m) := by
  unfold givenOk at h
  split at h
  · cases eff <;> rfl
  · rename_i hne
    have := give_as (base := base) eff m h
    rw [this]
    unfold givenV
    split
    · exact absurd rfl hne
    · rfl
theorem gives_ok (eff : Bool) (m : Mem) : ∀ (l : List AVal), l.all givenOk = true → gives eff base m l = some ((l.map givenV).map .v, m)
  | [], _ => rfl
  | a :: l, h => by
    simp only [List.all_cons, Bool.and_eq_true] at h
    unfold gives
    rw [give_ok eff m h.1]
    simp only [gives_ok eff m l h.2, List.map_cons]
theorem retQ_ok {g : Nat} {rs : Array ResultVar} {e : AExit} (vals : List AVal) {gs : GS} (he : e = .normal ∨ e = .ret) (ha : rs.toList.mapM (resultOf env s) = some vals) (hf : vals.all givenOk = true) (hg : s.m.gs = gs) {r : List RV × GS} (hr : r = ((vals.map givenV).map .v, gs)) : RetQ env g base rs r e s := by
  subst hr hg
  refine ⟨he, ?_⟩
  rw [ha, Option.bind_some, gives_ok _ _ _ hf]
  rfl
/-- What is appended to nothing, and only read. -/
theorem aAppend_pure {α : Type} {enc : α → List AVal} {l : List α} {glob : Bool} {key : Nat} {m : Mem} {e sz by_ : Nat} {z : List AVal} (h1 : env.size e = some sz) (h2 : env.bytes e = some by_) (h3 : env.zero e = some z) (h4 : z.length = sz) (h5 : 0 < sz) (h6 : 0 < by_) (hl : ∀ x, (enc x).length = sz) (hf : ∀ x, (enc x).all AVal.fixed = true) (h7 : l.length * by_ ≤ 140737488355328) :
    aAppend env base glob true key m e .e0 (.sl (l.map enc)) = some (.sl (l.map enc), none) := by
  have hall : ((l.map enc).all fun e => e.length == sz && e.all AVal.fixed) = true := List.all_eq_true.2 fun y hy => by
    obtain ⟨x, _, rfl⟩ := List.mem_map.1 hy
    simp only [hl x, hf x, beq_self_eq_true, Bool.and_self]
  have hc : (sz = 0 || by_ = 0 || !((l.map enc).all fun e => e.length == sz && e.all AVal.fixed) || z.length != sz) = false := by
    rw [hall]; simp; omega
  unfold aAppend
  simp only [h1, h2, h3, Mem.elems, Option.bind_some]
  rw [hc]
  simp only [Bool.false_eq_true, if_false, if_true]
  cases l with
  | nil => simp
  | cons x l =>
    have : ((x :: l).map enc).isEmpty = false := rfl
    rw [this]
    simp only [Bool.false_eq_true, if_false]
    rw [if_pos]
    simpa [maxBytes] using h7
end
end Go.Abs
