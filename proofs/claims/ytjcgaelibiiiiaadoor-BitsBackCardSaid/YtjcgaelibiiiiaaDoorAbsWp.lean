/-
  THE ABSTRACT INTERPRETER, walked backwards through a region's operations, their guards resolved. By this seat's session.
-/
import Derived.Test.YtjcgaelibiiiiaaDoorAbsWalk
import Derived.Test.YtjcgaelibiiiiaaDoorAbsRep
set_option linter.unusedVariables false
set_option linter.unusedSimpArgs false
namespace Go.Abs

/-- A region of a code, by its number. -/
def regIn : Code → Nat → Option (Array Oper)
  | .region i ops _, k => if i = k then some ops else none
  | .seq a b, k => (regIn a k).or (regIn b k)
  | .cond _ a b, k => (regIn a k).or (regIn b k)
  | .block _ b, k => regIn b k
  | .loop b, k => regIn b k
  | .scope b, k => regIn b k
  | .rangeFunc _ _ a b, k => (regIn a k).or (regIn b k)
  | _, _ => none
def regOps (fn : Func) (k : Nat) : Array Oper := ((fn.body.bind fun c => regIn c k)).getD #[]

structure Rop where
  dst : Option Tmp
  op : Op
  guard : Option (Tmp × Bool)
def Rop.oper (r : Rop) : Oper := { dst := r.dst, op := r.op, type := 0, pos := "", after := #[], guard := none }
/-- An operation, its guard by the temporary that it looks at. -/
def resolveG (ops : Array Oper) (o : Oper) : Option Rop :=
  match o.guard with
  | none => some ⟨o.dst, o.op, none⟩
  | some (j, want) => ((ops[j]?).bind (·.dst)).map fun t => ⟨o.dst, o.op, some (t, want)⟩

def aOpR (env : Env) (f base : Nat) (d : Option Tmp) (op : Op) (s : St) : Option (AVal × Option Mem) := aOp env f base (Rop.oper ⟨d, op, none⟩) s
def St.upd (s : St) (d : Option Tmp) (v : AVal) (m : Option Mem) : St :=
  let s := match m with | some m => { s with m := m } | none => s
  match d with
  | some d => s.set d v
  | none => s
def dstOk (nt : Nat) : Option Tmp → Bool
  | some d => decide (d < nt)
  | none => true
/-- What is behind an operation: the rest's walk, from a state. -/
abbrev Rest := List Bool → St → Prop
def WpV (nt : Nat) (d : Option Tmp) (s : St) (fl : List Bool) (R : Rest) : Option (AVal × Option Mem) → Prop
  | some (v, m) => dstOk nt d = true ∧ R (m.isSome :: fl) (s.upd d v m)
  | none => False
def WpC (env : Env) (f base nt : Nat) (d : Option Tmp) (s : St) (fl : List Bool) (R : Rest) (g : FuncId) : Option (List AVal × Option Mem) → Prop
  | some (args, m1) =>
    ∃ rs0 rs gs, Evals env g args (if env.eff g then base else (m1.getD s.m).gs.n) (m1.getD s.m).gs (rs0, gs) ∧ asSeen (env.pureApp f (d.getD 0)) rs0 = rs ∧ rs.length ≤ 4 ∧
      match placeL (env.site f (d.getD 0)) (4 * d.getD 0) (if env.eff g then { (m1.getD s.m) with gs := gs } else m1.getD s.m) rs with
      | (vs, m3) => WpV nt d s fl R (some (oneV vs, if env.eff g || rs.any isRow then some m3 else m1))
  | none => False
def WpF (env : Env) (f base nt : Nat) (d : Option Tmp) (s : St) (fl : List Bool) (R : Rest) : Option AVal → Option (List AVal) → Prop
  | some (.clo g first caps), some args => WpC env f base nt d s fl R g (passVs base s.m (first ++ args ++ caps))
  | _, _ => False
def WpOp (env : Env) (f base nt : Nat) (d : Option Tmp) (op : Op) (s : St) (fl : List Bool) (R : Rest) : Prop :=
  match op with
  | .call ⟨.value fo, as, _⟩ => WpF env f base nt d s fl R (aEval env s fo) (evals env s as.toList)
  | .call ⟨.invoke _ _, _, _⟩ => False
  | op => WpV nt d s fl R (aOpR env f base d op s)
def WpG (env : Env) (f base nt : Nat) (d : Option Tmp) (op : Op) (w : Bool) (s : St) (fl : List Bool) (R : Rest) : AVal → Prop
  | .raw (.bool b) => if b = w then WpOp env f base nt d op s fl R else dstOk nt d = true ∧ R (false :: fl) (s.upd d offV none)
  | .raw (.tuple _) => dstOk nt d = true ∧ R (false :: fl) (s.upd d offV none)
  | _ => False
def WpL (env : Env) (f base nt : Nat) (K : St → List Bool → Prop) : List Rop → Rest
  | [], fl, s => K s fl.reverse
  | ⟨d, op, none⟩ :: l, fl, s => WpOp env f base nt d op s fl (WpL env f base nt K l)
  | ⟨d, op, some (t, w)⟩ :: l, fl, s => WpG env f base nt d op w s fl (WpL env f base nt K l) (s.get t)

section
variable {env : Env} {f base nt : Nat}
theorem upd_put {d : Option Tmp} {v : AVal} {m : Option Mem} {s : St} (h : dstOk nt d = true) {o : Oper} (ho : o.dst = d) : putOp nt o v m s = some (s.upd d v m) := by
  unfold putOp St.upd
  rw [ho]
  cases d with
  | none => cases m <;> rfl
  | some d =>
    simp only [dstOk, decide_eq_true_eq] at h
    cases m <;> (simp only; rw [if_pos h])
theorem wpOp_wpo {ops : Array Oper} {o : Oper} {l : List Oper} {s : St} {fl : List Bool} {K : St → List Bool → Prop} (hw : wantedA ops o s = some true) (R : Rest) (h : WpOp env f base nt o.dst o.op s fl R)
    (hl : ∀ b s1, R (b :: fl) s1 → WpO env f base nt ops l s1 (fun s' fl' => K s' (b :: fl'))) : WpO env f base nt ops (o :: l) s K := by
  unfold WpOp at h
  split at h
  · rename_i fo as _ hop
    unfold WpF at h
    split at h
    · rename_i g first caps args hf ha
      unfold WpC at h
      split at h
      · rename_i args' m1 hp
        obtain ⟨rs0, rs, gs, h1, hrs, h2, h3⟩ := h
        split at h3
        rename_i vs m3 hpl
        obtain ⟨k1, k2⟩ := h3
        exact wpo_call hw (by unfold isCall; rw [hop]) (by unfold callee?; rw [hop]; simp only [hf, Option.bind_some]; show (evals env s as.toList).map _ = _; rw [ha]; rfl) hp h1 hrs h2 hpl (upd_put k1 rfl) (hl _ _ k2)
      · cases h
    · cases h
  · cases h
  · rename_i h1 h2
    unfold WpV at h
    split at h
    · rename_i v m hv
      obtain ⟨k1, k2⟩ := h
      have hc : isCall o = false := by
        unfold isCall
        split
        · rename_i c hc
          split
          · rfl
          · rename_i hcal
            obtain ⟨ce, as, ts⟩ := c
            cases ce with
            | builtin b => exact absurd rfl (hcal b)
            | value fo => exact absurd hc (h1 fo as ts)
            | invoke r m => exact absurd hc (h2 r m as ts)
        · rfl
      exact wpo_op hw hc hv (upd_put k1 rfl) (hl _ _ k2)
    · cases h
theorem wpL_wpo {ops : Array Oper} : ∀ (l : List Oper) (rs : List Rop) (s : St) (fl0 : List Bool) (K : St → List Bool → Prop), l.mapM (resolveG ops) = some rs → WpL env f base nt K rs fl0 s → WpO env f base nt ops l s (fun s' fl => K s' (fl0.reverse ++ fl))
  | [], rs, s, fl0, K, hr, h => by
    simp at hr; subst hr
    exact wpo_nil (by simpa [WpL] using h)
  | o :: l, rs, s, fl0, K, hr, h => by
    rw [List.mapM_cons] at hr
    cases h1 : resolveG ops o with
    | none => simp [h1] at hr
    | some r =>
      cases h2 : l.mapM (resolveG ops) with
      | none => simp [h1, h2] at hr
      | some rs' =>
        simp [h1, h2] at hr
        subst hr
        have step : ∀ b s1, WpL env f base nt K rs' (b :: fl0) s1 → WpO env f base nt ops l s1 (fun s' fl => K s' (fl0.reverse ++ b :: fl)) := by
          intro b s1 h
          have := wpL_wpo l rs' s1 (b :: fl0) K h2 h
          simpa using this
        unfold resolveG at h1
        split at h1
        · rename_i hg
          cases h1
          simp only [WpL] at h
          exact wpOp_wpo (fl := fl0) (by unfold wantedA; rw [hg]) _ h step
        · rename_i j want hg
          obtain ⟨t, ht, e⟩ := Option.map_eq_some_iff.1 h1
          cases e
          simp only [WpL] at h
          unfold WpG at h
          split at h
          · rename_i b hb
            have hwant : wantedA ops o s = some (b == want) := by unfold wantedA; rw [hg]; simp only [ht, hb]
            split at h
            · rename_i hbw
              subst hbw
              exact wpOp_wpo (fl := fl0) (by rw [hwant]; simp) _ h step
            · rename_i hbw
              obtain ⟨k1, k2⟩ := h
              exact wpo_off (by rw [hwant]; simp [hbw]) (upd_put k1 rfl) (step _ _ k2)
          · rename_i vs hb
            obtain ⟨k1, k2⟩ := h
            exact wpo_off (by unfold wantedA; rw [hg]; simp only [ht, hb]) (upd_put k1 rfl) (step _ _ k2)
          · cases h
/-- A region, over its resolved operations. -/
theorem aw_region_r {id : Nat} {ops : Array Oper} {draw : Bool} {s : St} {Q : AExit → St → Prop} {rs : List Rop} (hr : ops.toList.mapM (resolveG ops) = some rs)
    (h : WpL env f base nt (fun s' fl => (draw && !drawOk ops fl) = false ∧ Q .normal s') rs [] s) : Wp env f base nt (.region id ops draw) s Q :=
  aw_region (by simpa using wpL_wpo _ _ _ _ _ hr h)
def endQ (Q : AExit → St → Prop) : St → List Bool → Prop := fun s _ => Q .normal s
theorem aw_region_q {id : Nat} {ops : Array Oper} {s : St} {Q : AExit → St → Prop} {rs : List Rop} (hr : ops.toList.mapM (resolveG ops) = some rs)
    (h : WpL env f base nt (endQ Q) rs [] s) : Wp env f base nt (.region id ops false) s Q := by
  refine aw_region_r hr ?_
  have e : endQ Q = fun s' fl => ((false && !drawOk ops fl) = false ∧ Q .normal s') := by funext s' fl; simp [endQ]
  rw [← e]; exact h
/-- Where the operations do not turn the memory, the order is free. -/
def drawQ (Q : AExit → St → Prop) : St → List Bool → Prop := fun s fl => fl.any id = false ∧ Q .normal s
theorem aw_region_d {id : Nat} {ops : Array Oper} {draw : Bool} {s : St} {Q : AExit → St → Prop} {rs : List Rop} (hr : ops.toList.mapM (resolveG ops) = some rs)
    (h : WpL env f base nt (drawQ Q) rs [] s) : Wp env f base nt (.region id ops draw) s Q := by
  refine aw_region ?_
  have := wpL_wpo _ _ _ _ _ hr h
  obtain ⟨n, s', fl, h1, h2, h3⟩ := this
  simp only [List.reverse_nil, List.nil_append] at h2
  exact ⟨n, s', fl, h1, by unfold drawOk; rw [h2]; simp, h3⟩

/-! ### The walk's equations. -/
variable {s : St} {d : Option Tmp} {dd : Tmp} {v : AVal} {fl : List Bool} {R : Rest} {K : St → List Bool → Prop}
@[simp] theorem wpL_nil : WpL env f base nt K [] fl s = K s fl.reverse := rfl
@[simp] theorem wpL_on (op : Op) (l : List Rop) : WpL env f base nt K (⟨d, op, none⟩ :: l) fl s = WpOp env f base nt d op s fl (WpL env f base nt K l) := rfl
@[simp] theorem wpL_guard (op : Op) (t : Tmp) (w : Bool) (l : List Rop) : WpL env f base nt K (⟨d, op, some (t, w)⟩ :: l) fl s = WpG env f base nt d op w s fl (WpL env f base nt K l) (s.get t) := rfl
@[simp] theorem wpG_tt (op : Op) : WpG env f base nt d op true s fl R (.raw (.bool true)) = WpOp env f base nt d op s fl R := rfl
@[simp] theorem wpG_ff (op : Op) : WpG env f base nt d op false s fl R (.raw (.bool false)) = WpOp env f base nt d op s fl R := rfl
@[simp] theorem wpG_tf (op : Op) : WpG env f base nt d op true s fl R (.raw (.bool false)) = (dstOk nt d = true ∧ R (false :: fl) (s.upd d offV none)) := rfl
@[simp] theorem wpG_ft (op : Op) : WpG env f base nt d op false s fl R (.raw (.bool true)) = (dstOk nt d = true ∧ R (false :: fl) (s.upd d offV none)) := rfl
@[simp] theorem wpG_off (op : Op) (w : Bool) : WpG env f base nt d op w s fl R offV = (dstOk nt d = true ∧ R (false :: fl) (s.upd d offV none)) := rfl
@[simp] theorem wpV_some (m : Option Mem) : WpV nt d s fl R (some (v, m)) = (dstOk nt d = true ∧ R (m.isSome :: fl) (s.upd d v m)) := rfl
@[simp] theorem wpV_none : WpV nt d s fl R none = False := rfl
@[simp] theorem dstOk_some : dstOk nt (some dd) = decide (dd < nt) := rfl
@[simp] theorem dstOk_none : dstOk nt none = true := rfl
@[simp] theorem upd_none (m : Option Mem) : s.upd none v m = ⟨s.fr, m.getD s.m⟩ := by cases m <;> rfl
@[simp] theorem St.get_upd (t : Nat) (m : Option Mem) : (s.upd (some dd) v m).get t = if t = dd then v else s.get t := by
  cases m <;> exact Tbl.get_set _ _ _ _ _
@[simp] theorem St.upd_m (d : Option Tmp) (m : Option Mem) : (s.upd d v m).m = m.getD s.m := by
  cases d <;> cases m <;> rfl
@[simp] theorem St.get_fr (m : Mem) (t : Nat) : St.get ⟨s.fr, m⟩ t = s.get t := rfl
@[simp] theorem aEval_tmp (t : Nat) : aEval env s (.tmp t) = some (s.get t) := rfl
@[simp] theorem aEval_int (k : IntKind) (z : Int) : aEval env s (.const (.int k z)) = some (.raw (.int k z)) := rfl
@[simp] theorem aEval_bool (b : Bool) : aEval env s (.const (.bool b)) = some (.raw (.bool b)) := rfl
@[simp] theorem aEval_nilSlice : aEval env s (.const (.slice none 0 0)) = some .e0 := rfl
@[simp] theorem aEval_func (g : FuncId) : aEval env s (.func g) = some (.clo g [] []) := rfl
@[simp] theorem aEval_global (g : Nat) : aEval env s (.global g) = (env.globals g).map .ip := rfl
@[simp] theorem evals_nil : evals env s [] = some [] := rfl
@[simp] theorem evals_cons (x : Operand) (l : List Operand) : evals env s (x :: l) = (aEval env s x).bind fun a => (evals env s l).map (a :: ·) := by
  unfold evals
  rw [List.mapM_cons]
  cases aEval env s x <;> simp
  cases l.mapM (aEval env s) <;> rfl
@[simp] theorem evalParts_nil : evalParts env s [] = some [] := rfl
@[simp] theorem evalParts_cons (i : Nat) (x : Operand) (l : List (Nat × Operand)) : evalParts env s ((i, x) :: l) = (aEval env s x).bind fun a => (evalParts env s l).map ((i, a) :: ·) := by
  unfold evalParts
  rw [List.mapM_cons]
  simp only
  cases aEval env s x with
  | none => rfl
  | some a =>
    simp only [Option.map_some, Option.bind_some]
    generalize l.mapM (m := Option) (fun (x : Nat × Operand) => _) = r
    cases r <;> rfl

def o1 (x : Option AVal) : Option (AVal × Option Mem) := x.map (·, none)
@[simp] theorem o1_some : o1 (some v) = some (v, none) := rfl
@[simp] theorem o1_none : o1 none = none := rfl
@[simp] theorem aw_move (x : Operand) : WpOp env f base nt d (.move x) s fl R = WpV nt d s fl R (o1 (aEval env s x)) := rfl
@[simp] theorem aw_assign (x : Operand) : WpOp env f base nt d (.assign x) s fl R = WpV nt d s fl R (o1 (aEval env s x)) := rfl
def pick (c a b : Option AVal) : Option (AVal × Option Mem) := c.bind fun c => match c with
    | .raw (.bool t) => a.bind fun a => b.map fun b => (if t then a else b, none)
    | _ => none
@[simp] theorem pick_bool (t : Bool) (a b : AVal) : pick (some (.raw (.bool t))) (some a) (some b) = some (if t then a else b, none) := rfl
@[simp] theorem aw_pick (c a b : Operand) : WpOp env f base nt d (.pick c a b) s fl R = WpV nt d s fl R (pick (aEval env s c) (aEval env s a) (aEval env s b)) := rfl
def bin (env : Env) (op : BinOp) (t : TypeId) (y : Operand) (x b : Option AVal) : Option (AVal × Option Mem) := x.bind fun a => match nilCmpO env op t a y with
  | some r => some (r, none)
  | none => b.bind fun b => (aBin env op t a b).map (·, none)
@[simp] theorem bin_tmp (op : BinOp) (t : TypeId) (u : Nat) (x y : AVal) : bin env op t (.tmp u) (some x) (some y) = o1 (aBin env op t x y) := rfl
@[simp] theorem bin_int (op : BinOp) (t : TypeId) (k : IntKind) (z : Int) (x y : AVal) : bin env op t (.const (.int k z)) (some x) (some y) = o1 (aBin env op t x y) := by
  unfold bin nilCmpO nilCmp; rfl
@[simp] theorem bin_bool (op : BinOp) (t : TypeId) (c : Bool) (x y : AVal) : bin env op t (.const (.bool c)) (some x) (some y) = o1 (aBin env op t x y) := by
  unfold bin nilCmpO nilCmp; rfl
@[simp] theorem bin_string (op : BinOp) (t : TypeId) (c : ByteArray) (x y : AVal) : bin env op t (.const (.string c)) (some x) (some y) = o1 (aBin env op t x y) := by
  unfold bin nilCmpO nilCmp; rfl
@[simp] theorem aw_bin (op : BinOp) (t t' : TypeId) (x y : Operand) : WpOp env f base nt d (.binOp op t x y t') s fl R = WpV nt d s fl R (bin env op t y (aEval env s x) (aEval env s y)) := rfl
@[simp] theorem aw_un (op : UnOp) (t : TypeId) (x : Operand) : WpOp env f base nt d (.unOp op t x) s fl R = WpV nt d s fl R (o1 ((aEval env s x).bind (aUn op))) := by
  show WpV nt d s fl R ((aEval env s x).bind fun x => (aUn op x).map (·, none)) = _
  cases aEval env s x <;> rfl
@[simp] theorem aw_convert (a b : TypeId) (x : Operand) : WpOp env f base nt d (.convert a b x) s fl R = WpV nt d s fl R (o1 ((aEval env s x).bind (aConvert env a b))) := by
  show WpV nt d s fl R ((aEval env s x).bind fun x => (aConvert env a b x).map (·, none)) = _
  cases aEval env s x <;> rfl
def idx (env : Env) (m : Mem) (t : TypeId) (x i : AVal) : Option (AVal × Option Mem) :=
    match env.under t with
    | some (.slice e) => (env.size e).bind fun sz =>
      match x with
      | .sl es => (aInd es.length i).bind fun k => (es[k]?).bind fun c => if c.length = sz && 0 < sz then some (.ip c, none) else none
      | .hs o g lo n => (aInd n i).bind fun k =>
        let x := m.obj o
        if x.gen = g then
          match x.st with
          | .ro sz' _ => if sz' = sz then some (.hp o g (lo + k) 0, none) else none
          | .row sz' _ => if sz' = sz then some (.hp o g (lo + k) 0, none) else none
          | _ => none
        else none
      | _ => none
    | some (.array len e) => (env.size e).bind fun sz =>
      if sz = 0 then none else
      match x with
      | .hp o g j off => (aInd len i).map fun k => (.hp o g j (off + k * sz), none)
      | .ip cs => (aInd len i).map fun k => (.ip (cs.drop (k * sz)), none)
      | _ => none
    | _ => none
def bind2 {α β γ : Type} (x : Option α) (y : Option β) (f : α → β → Option γ) : Option γ := x.bind fun a => y.bind fun b => f a b
@[simp] theorem bind2_some {α β γ : Type} (x : α) (y : β) (f : α → β → Option γ) : bind2 (some x) (some y) f = f x y := rfl
@[simp] theorem aw_indexAddr (t : TypeId) (x i : Operand) : WpOp env f base nt d (.indexAddr t x i) s fl R = WpV nt d s fl R (bind2 (aEval env s x) (aEval env s i) (idx env s.m t)) := rfl
theorem idx_sl {t e : TypeId} {sz : Nat} {es : List (List AVal)} {i : AVal} {k : Nat} {c : List AVal} (hu : env.under t = some (.slice e)) (hs : env.size e = some sz) (hi : aInd es.length i = some k) (hc : es[k]? = some c) (hl : c.length = sz) (h0 : 0 < sz) (m : Mem) : idx env m t (.sl es) i = some (.ip c, none) := by
  unfold idx
  simp [hu, hs, hi, hc, hl, h0]
def faddr (x : AVal) : Option (Nat × Nat × TypeId) → Option (AVal × Option Mem)
  | some (off, _, _) => match x with
    | .hp o g i k => some (.hp o g i (k + off), none)
    | .ip cs => some (.ip (cs.drop off), none)
    | _ => none
  | none => none
@[simp] theorem faddr_ip (cs : List AVal) (off n : Nat) (ft : TypeId) : faddr (.ip cs) (some (off, n, ft)) = some (.ip (cs.drop off), none) := rfl
@[simp] theorem faddr_hp (o : OId) (g i k off n : Nat) (ft : TypeId) : faddr (.hp o g i k) (some (off, n, ft)) = some (.hp o g i (k + off), none) := rfl
@[simp] theorem aw_fieldAddr (t : TypeId) (x : Operand) (i : Nat) : WpOp env f base nt d (.fieldAddr t x i) s fl R = WpV nt d s fl R ((aEval env s x).bind fun x => faddr x (fieldOf env t i)) := by
  show WpV nt d s fl R ((aEval env s x).bind fun x => (fieldOf env t i).bind fun (off, _, _) =>
    match x with
    | .hp o g i k => some (.hp o g i (k + off), none)
    | .ip cs => some (.ip (cs.drop off), none)
    | _ => none) = _
  cases fieldOf env t i <;> rfl
def fval (env : Env) (x : AVal) : Option (Nat × Nat × TypeId) → Option (AVal × Option Mem)
  | some (off, n, ft) => match x with
    | .agg cs => (sub cs off n).bind fun cs => (env.pack ft cs).map (·, none)
    | _ => none
  | none => none
@[simp] theorem fval_agg (cs : List AVal) (off n : Nat) (ft : TypeId) : fval env (.agg cs) (some (off, n, ft)) = (sub cs off n).bind fun cs => o1 (env.pack ft cs) := rfl
@[simp] theorem aw_field (t : TypeId) (x : Operand) (i : Nat) : WpOp env f base nt d (.field t x i) s fl R = WpV nt d s fl R ((aEval env s x).bind fun x => fval env x (fieldOf env t i)) := by
  show WpV nt d s fl R ((aEval env s x).bind fun x => (fieldOf env t i).bind fun (off, n, ft) =>
    match x with
    | .agg cs => (sub cs off n).bind fun cs => (env.pack ft cs).map (·, none)
    | _ => none) = _
  cases fieldOf env t i <;> rfl
def ld (env : Env) (m : Mem) (t : TypeId) (a : AVal) : Option Nat → Option (AVal × Option Mem)
  | some n => match a with
    | .ip cs => (sub cs 0 n).bind fun cs => (env.pack t cs).map (·, none)
    | .hp o g i off => (m.read o g i off n).bind fun cs => (env.pack t cs).map (·, none)
    | _ => none
  | none => none
@[simp] theorem ld_ip (m : Mem) (t : TypeId) (cs : List AVal) (n : Nat) : ld env m t (.ip cs) (some n) = (sub cs 0 n).bind fun cs => o1 (env.pack t cs) := rfl
@[simp] theorem ld_hp (m : Mem) (t : TypeId) (o : OId) (g i off n : Nat) : ld env m t (.hp o g i off) (some n) = (m.read o g i off n).bind fun cs => o1 (env.pack t cs) := rfl
@[simp] theorem aw_load (t : TypeId) (a : Operand) : WpOp env f base nt d (.load t a) s fl R = WpV nt d s fl R ((aEval env s a).bind fun a => ld env s.m t a (env.size t)) := by
  show WpV nt d s fl R ((aEval env s a).bind fun a => (env.size t).bind fun n =>
    match a with
    | .ip cs => (sub cs 0 n).bind fun cs => (env.pack t cs).map (·, none)
    | .hp o g i off => (s.m.read o g i off n).bind fun cs => (env.pack t cs).map (·, none)
    | _ => none) = _
  cases env.size t <;> rfl
def stv (base : Nat) (m : Mem) (a x : AVal) : Option Nat → Option (AVal × Option Mem)
  | some n => match a with
    | .hp o g i off => if x.cells.length = n then (m.write base o g i off x.cells).map fun m => (.undef, some m) else none
    | _ => none
  | none => none
@[simp] theorem stv_hp (m : Mem) (o : OId) (g i off n : Nat) (x : AVal) : stv base m (.hp o g i off) x (some n) = if x.cells.length = n then (m.write base o g i off x.cells).map fun m => (.undef, some m) else none := rfl
@[simp] theorem aw_store (t : TypeId) (a x : Operand) : WpOp env f base nt d (.store t a x) s fl R = WpV nt d s fl R (bind2 (aEval env s a) (aEval env s x) fun a x => stv base s.m a x (env.size t)) := by
  show WpV nt d s fl R ((aEval env s a).bind fun a => (aEval env s x).bind fun x => (env.size t).bind fun n =>
    match a with
    | .hp o g i off => if x.cells.length = n then (s.m.write base o g i off x.cells).map fun m => (.undef, some m) else none
    | _ => none) = _
  cases env.size t <;> rfl
def ext1 (j : Nat) : AVal → Option (AVal × Option Mem)
  | .tup vs => o1 vs[j]?
  | _ => none
@[simp] theorem ext1_tup (j : Nat) (vs : List AVal) : ext1 j (.tup vs) = o1 vs[j]? := rfl
@[simp] theorem aw_extract (t : Operand) (j : Nat) : WpOp env f base nt d (.extract t j) s fl R = WpV nt d s fl R ((aEval env s t).bind (ext1 j)) := rfl
@[simp] theorem aw_makeFunc (g : FuncId) (fs cs : Array Operand) : WpOp env f base nt d (.makeFunc (.func g) fs cs) s fl R = WpV nt d s fl R (bind2 (evals env s fs.toList) (evals env s cs.toList) fun fs cs => if fs.all AVal.isCell && cs.all AVal.isCell then some (.clo g fs cs, none) else none) := rfl
def nchk : AVal → Option (AVal × Option Mem)
  | .hp o g i k => some (.hp o g i k, none)
  | .ip cs => some (.ip cs, none)
  | .clo g a b => some (.clo g a b, none)
  | _ => none
@[simp] theorem aw_nilCheck (x : Operand) : WpOp env f base nt d (.nilCheck x) s fl R = WpV nt d s fl R ((aEval env s x).bind nchk) := by
  show WpV nt d s fl R ((aEval env s x).bind _) = _
  cases aEval env s x with
  | none => rfl
  | some a => cases a <;> rfl
def len1 (env : Env) (t : Option TypeId) : List AVal → Option (AVal × Option Mem)
  | [x] => o1 (aLen env t x)
  | _ => none
@[simp] theorem len1_one (t : Option TypeId) (x : AVal) : len1 env t [x] = o1 (aLen env t x) := rfl
@[simp] theorem aw_len (as : Array Operand) (ts : Array TypeId) : WpOp env f base nt d (.call ⟨.builtin .len, as, ts⟩) s fl R = WpV nt d s fl R ((evals env s as.toList).bind (len1 env ts[0]?)) := by
  show WpV nt d s fl R ((evals env s as.toList).bind _) = _
  cases h : evals env s as.toList with
  | none => rfl
  | some args => match args with
    | [] => rfl
    | [x] => rfl
    | _ :: _ :: _ => rfl
@[simp] theorem aw_value (fo : Operand) (as : Array Operand) (ts : Array TypeId) : WpOp env f base nt d (.call ⟨.value fo, as, ts⟩) s fl R = WpF env f base nt d s fl R (aEval env s fo) (evals env s as.toList) := rfl
@[simp] theorem wpF_some (g : FuncId) (first caps args : List AVal) : WpF env f base nt d s fl R (some (.clo g first caps)) (some args) = WpC env f base nt d s fl R g (passVs base s.m (first ++ args ++ caps)) := rfl
/-- Arguments that pass as they are. -/
def plain1 : AVal → Bool
  | .e0 => false
  | .hs (.loc _) _ _ _ => false
  | a => a.shared
def plainArg : AVal → Bool
  | .agg cs => cs.all plain1
  | a => plain1 a
theorem pass_plain (m : Mem) {a : AVal} (h : plain1 a = true) : pass base m a = some (a, none) := by
  unfold pass
  split
  · simp [plain1] at h
  · simp [plain1] at h
  · rename_i h1 h2
    rw [if_pos]
    unfold plain1 at h
    split at h
    · cases h
    · cases h
    · exact h
theorem passL_plain (m : Mem) : ∀ (l : List AVal), l.all plain1 = true → passL base m l = some (l, none)
  | [], _ => rfl
  | a :: l, h => by
    simp only [List.all_cons, Bool.and_eq_true] at h
    unfold passL
    rw [pass_plain m h.1]
    simp only [Option.getD_none, passL_plain m l h.2, orM]
theorem passVs_plain (m : Mem) : ∀ (l : List AVal), l.all plainArg = true → passVs base m l = some (l, none)
  | [], _ => rfl
  | a :: l, h => by
    simp only [List.all_cons, Bool.and_eq_true] at h
    have e : passV base m a = some (a, none) := by
      unfold passV
      split
      · rename_i cs
        rw [passL_plain m cs h.1]; rfl
      · rename_i hne
        have : plain1 a = true := by
          have h1 := h.1
          unfold plainArg at h1
          split at h1
          · exact absurd rfl (hne _)
          · exact h1
        exact pass_plain m this
    unfold passVs
    rw [e]
    simp only [Option.getD_none, passVs_plain m l h.2, orM]
/-- A call of a function that writes nothing of its callers', its answer one plain value. -/
theorem wpC_plain {g : FuncId} {args : List AVal} {r : AVal} {gs : GS} (heff : env.eff g = false) (hp : args.all plainArg = true) (he : Evals env g args s.m.gs.n s.m.gs ([.v r], gs)) (h : dstOk nt d = true ∧ R (false :: fl) (s.upd d r none)) : WpC env f base nt d s fl R g (passVs base s.m args) := by
  rw [passVs_plain s.m args hp]
  refine ⟨[.v r], [.v r], gs, ?_, by unfold asSeen; split <;> rfl, by simp, ?_⟩
  · rw [heff]; exact he
  · simp only [placeL, place1, heff]
    simpa [isRow, WpV, oneV] using h
end
/-! ### Ends. -/
section
variable {env : Env} {f base nt : Nat} {s : St} {Q : AExit → St → Prop}
@[simp] theorem endQ_eq (fl : List Bool) : endQ Q s fl = Q .normal s := rfl
@[simp] theorem drawQ_eq (fl : List Bool) : drawQ Q s fl = (fl.any id = false ∧ Q .normal s) := rfl
@[simp] theorem seqQ_normal (b : Code) : seqQ env f base nt b Q .normal s = Wp env f base nt b s Q := rfl
@[simp] theorem seqQ_exit (b : Code) (j : Nat) : seqQ env f base nt b Q (.exit j) s = Q (.exit j) s := rfl
@[simp] theorem seqQ_ret (b : Code) : seqQ env f base nt b Q .ret s = Q .ret s := rfl
@[simp] theorem blockQ_normal (id : Nat) : blockQ id Q .normal s = Q .normal s := rfl
@[simp] theorem blockQ_ret (id : Nat) : blockQ id Q .ret s = Q .ret s := rfl
@[simp] theorem blockQ_exit (id j : Nat) : blockQ id Q (.exit j) s = if j = id then Q .normal s else Q (.exit j) s := rfl
def invQ (I : Nat → St → Prop) (k : Nat) (Q : AExit → St → Prop) : AExit → St → Prop := fun e s' => match e with
  | .normal => ∃ j, j < k ∧ I j s'
  | e => Q e s'
@[simp] theorem invQ_normal (I : Nat → St → Prop) (k : Nat) : invQ I k Q .normal s = ∃ j, j < k ∧ I j s := rfl
@[simp] theorem invQ_exit (I : Nat → St → Prop) (k j : Nat) : invQ I k Q (.exit j) s = Q (.exit j) s := rfl
@[simp] theorem invQ_ret (I : Nat → St → Prop) (k : Nat) : invQ I k Q .ret s = Q .ret s := rfl
theorem aw_inv {b : Code} (I : Nat → St → Prop) (k : Nat) (h0 : I k s) (hb : ∀ k s, I k s → Wp env f base nt b s (invQ I k Q)) : Wp env f base nt (.loop b) s Q :=
  aw_loop_inv I k h0 fun k s h => (hb k s h).mono fun e s' h => by cases e <;> exact h
/-- What is asked at a function's end. -/
def RetQ (env : Env) (g base : Nat) (rs : Array ResultVar) (r : List RV × GS) : AExit → St → Prop := fun e s =>
  (e = .normal ∨ e = .ret) ∧ ((rs.toList.mapM (resultOf env s)).bind fun rs => (gives (env.eff g) base s.m rs).map fun (rs, m) => (rs, m.gs)) = some r
theorem enterFr_get' (args : List AVal) (m : Mem) (t : Nat) : St.get ⟨enterFr args, m⟩ t = args.getD t .undef := by
  have key : ∀ (args : List AVal) (k : Nat) (t : Tbl AVal) (j : Nat), ((args.foldl (fun (p : Nat × Tbl AVal) a => (p.1 + 1, p.2.set .undef p.1 a)) (k, t)).2).get .undef j = if k ≤ j ∧ j < k + args.length then args.getD (j - k) .undef else t.get .undef j := by
    intro args
    induction args with
    | nil => intro k t j; rw [if_neg (by simp only [List.length_nil]; omega)]; rfl
    | cons a args ih =>
      intro k t j
      rw [List.foldl_cons, ih (k + 1) _ j, Tbl.get_set]
      by_cases h1 : k + 1 ≤ j ∧ j < k + 1 + args.length
      · rw [if_pos h1, if_pos (by simp only [List.length_cons]; omega)]
        obtain ⟨d, rfl⟩ : ∃ d, j = k + 1 + d := ⟨j - (k + 1), by omega⟩
        rw [show k + 1 + d - (k + 1) = d by omega, show k + 1 + d - k = d + 1 by omega]
        simp
      · rw [if_neg h1]
        by_cases h2 : j = k
        · subst h2; rw [if_pos rfl, if_pos (by simp only [List.length_cons]; omega)]; simp
        · rw [if_neg h2, if_neg (by simp only [List.length_cons]; omega)]
  show (enterFr args).get .undef t = _
  unfold enterFr
  rw [key args 0 ⟨[]⟩ t]
  simp only [Nat.zero_le, true_and, Nat.zero_add, Nat.sub_zero]
  split
  · rfl
  · rename_i h; simp [List.getD_eq_getElem?_getD, List.getElem?_eq_none (by omega : args.length ≤ t), Tbl.get_nil]
theorem evals_walk {g : FuncId} {fn : Func} {c : Code} {args : List AVal} {gs : GS} {r : List RV × GS} (nt : Nat) (rs : Array ResultVar) (he : env.ext g = none) (hf : env.funcs g = some fn) (hb : fn.body = some c) (hn : fn.ntmps = nt) (hr : fn.results = rs) (hl : args.length ≤ nt)
    (h : ∀ s, (∀ t, s.get t = args.getD t .undef) → s.m = ⟨⟨[]⟩, gs⟩ → Wp env g base nt c s (RetQ env g base rs r)) : Evals env g args base gs r := by
  subst hn hr
  exact evals_of_wp he hf hb hl (h _ (enterFr_get' args _) rfl)
theorem frz_fixed (m : Mem) {a : AVal} (h : a.fixed = true) : frz base m a = some (a, none) := by
  cases a <;> first | (simp [AVal.fixed] at h; done) | (unfold frz; simp only; rw [if_pos h])
theorem frzL_fixed (m : Mem) : ∀ (l : List AVal), l.all AVal.fixed = true → frzL base m l = some (l, none)
  | [], _ => rfl
  | a :: l, h => by
    simp only [List.all_cons, Bool.and_eq_true] at h
    unfold frzL
    rw [frz_fixed m h.1]
    simp only [Option.getD_none, frzL_fixed m l h.2, orM]
theorem giveCells_fixed (m : Mem) {a : AVal} (h : a.fixed = true) : giveCells base m a = some (.v a, m) := by
  have := frz_fixed (base := base) m h
  cases a <;> first | (simp [AVal.fixed] at h; done) | (unfold giveCells; simp only [this]; rfl)
/-- A value to hand over as it is: never written again, or parts that are. -/
def givenAs : AVal → Bool
  | .agg cs => cs.all AVal.fixed
  | a => a.fixed
theorem give_as (eff : Bool) (m : Mem) {a : AVal} (h : givenAs a = true) : (if eff then giveShared base m a else giveCells base m a) = some (.v a, m) := by
  have agg : ∀ cs : List AVal, cs.all AVal.fixed = true → cs.all plain1 = true := fun cs hc => List.all_eq_true.2 fun x hx => by
    have := List.all_eq_true.1 hc x hx
    cases x <;> first | (simp [AVal.fixed] at this; done) | exact this | rfl | skip
    simp [plain1, AVal.shared]
    simp [AVal.fixed] at this
    split at this <;> simp_all
  by_cases hag : ∃ cs, a = .agg cs
  · obtain ⟨cs, rfl⟩ := hag
    have h' : cs.all AVal.fixed = true := h
    cases eff with
    | true => simp only [if_true, giveShared, passL_plain m cs (agg cs h'), Option.map_some, Option.getD_none]
    | false => simp only [Bool.false_eq_true, if_false, giveCells, frzL_fixed m cs h', Option.map_some, Option.getD_none]
  · have hfx : a.fixed = true := by
      unfold givenAs at h
      split at h
      · exact absurd ⟨_, rfl⟩ hag
      · exact h
    have h' := giveCells_fixed (base := base) m hfx
    cases eff with
    | false => exact h'
    | true =>
      cases a <;> first | exact h' | (simp [AVal.fixed] at hfx; done)
theorem gives_as (eff : Bool) (m : Mem) : ∀ (l : List AVal), l.all givenAs = true → gives eff base m l = some (l.map .v, m)
  | [], _ => rfl
  | a :: l, h => by
    simp only [List.all_cons, Bool.and_eq_true] at h
    unfold gives
    rw [give_as eff m h.1]
    simp only [gives_as eff m l h.2, List.map_cons]
theorem retQ_as {g : Nat} {rs : Array ResultVar} {e : AExit} {as : List AVal} {gs : GS} (he : e = .normal ∨ e = .ret) (ha : rs.toList.mapM (resultOf env s) = some as) (hf : as.all givenAs = true) (hg : s.m.gs = gs) {r : List RV × GS} (hr : r = (as.map .v, gs)) : RetQ env g base rs r e s := by
  subst hr hg
  refine ⟨he, ?_⟩
  rw [ha, Option.bind_some, gives_as _ _ _ hf]
  rfl
theorem retQ_tmp {g t : Nat} {a : AVal} {gs : GS} {e : AExit} (he : e = .normal ∨ e = .ret) (h : s.get t = a) (hf : givenAs a = true) (hg : s.m.gs = gs) : RetQ env g base #[.tmp t] ([.v a], gs) e s :=
  retQ_as (as := [a]) he (by simp [resultOf, h]) (by simp [hf]) hg rfl
theorem retQ_tmp2 {g t u : Nat} {a b : AVal} {gs : GS} {e : AExit} (he : e = .normal ∨ e = .ret) (h : s.get t = a) (h2 : s.get u = b) (hf : givenAs a = true) (hf2 : givenAs b = true) (hg : s.m.gs = gs) : RetQ env g base #[.tmp t, .tmp u] ([.v a, .v b], gs) e s :=
  retQ_as (as := [a, b]) he (by simp [resultOf, h, h2]) (by simp [hf, hf2]) hg rfl
theorem aInd_nat (n : Nat) (k : IntKind) (i : Nat) (h : i < n) : aInd n (.raw (.int k i)) = some i := by
  unfold aInd; simp [h]
theorem wrap_i64 {z : Int} (h0 : -9223372036854775808 ≤ z) (h1 : z < 9223372036854775808) : IntKind.i64.wrap z = z := by
  unfold IntKind.wrap
  simp only [IntKind.bits, IntKind.signed, Bool.true_and, decide_eq_true_eq, ge_iff_le]
  split <;> omega
end
/-! ### Objects of one's own. -/
section
variable {env : Env} {f base nt : Nat} {s : St} {d : Option Tmp} {dd : Tmp} {v : AVal} {fl : List Bool} {R : Rest}
def genOf (m : Mem) (key : Nat) : Nat := (m.L.get .none key).gen + 1
def newLoc (key : Nat) (m : Mem) (st : OSt) : Mem := { m with L := m.L.set .none key ⟨genOf m key, st⟩ }
@[simp] theorem newObj_false (key : Nat) (m : Mem) (st : OSt) : newObj false key m st = (.loc key, genOf m key, newLoc key m st) := rfl
@[simp] theorem newLoc_gs (key : Nat) (m : Mem) (st : OSt) : (newLoc key m st).gs = m.gs := rfl
@[simp] theorem newLoc_obj (key : Nat) (m : Mem) (st : OSt) (j : Nat) : (newLoc key m st).obj (.loc j) = if j = key then ⟨genOf m key, st⟩ else m.obj (.loc j) := by
  show (m.L.set .none key _).get .none j = _
  rw [Tbl.get_set]; rfl
@[simp] theorem put_loc_obj (k : Nat) (m : Mem) (x : AObj) (j : Nat) : (m.put (.loc k) x).obj (.loc j) = if j = k then x else m.obj (.loc j) := by
  show (m.L.set .none k x).get .none j = _
  rw [Tbl.get_set]; rfl
@[simp] theorem put_loc_gs (k : Nat) (m : Mem) (x : AObj) : (m.put (.loc k) x).gs = m.gs := rfl
def box1 (env : Env) (f : Nat) (d : Tmp) (m : Mem) (x : AVal) : Option Nat → Option (AVal × Option Mem)
  | some n => if x.cells.length = n && 0 < n && x.cells.all AVal.isCell && (!env.site f d || x.cells.all AVal.shared) then
      let (o, g, m) := newObj (env.site f d) (4 * d) m (.box x.cells); some (.hp o g 0 0, some m) else none
  | none => none
@[simp] theorem aw_box (t : TypeId) (x : Operand) : WpOp env f base nt (some dd) (.box t x) s fl R = WpV nt (some dd) s fl R ((aEval env s x).bind fun x => box1 env f dd s.m x (env.size t)) := by
  show WpV nt (some dd) s fl R ((aEval env s x).bind fun x => (env.size t).bind _) = _
  cases env.size t <;> rfl
theorem box1_loc {n : Nat} {x : AVal} {m : Mem} (hs : env.site f dd = false) (hl : x.cells.length = n) (h0 : 0 < n) (hc : x.cells.all AVal.isCell = true) : box1 env f dd m x (some n) = some (.hp (.loc (4 * dd)) (genOf m (4 * dd)) 0 0, some (newLoc (4 * dd) m (.box x.cells))) := by
  unfold box1
  simp [hs, hl, h0, hc]
def alloc1 (env : Env) (f : Nat) (d : Tmp) (m : Mem) : Option (List AVal) → Option Nat → Option (AVal × Option Mem)
  | some z, some n => if z.length = n && 0 < n then let (o, g, m) := newObj (env.site f d) (4 * d) m (.box z); some (.hp o g 0 0, some m) else none
  | _, _ => none
@[simp] theorem aw_alloc (t : TypeId) : WpOp env f base nt (some dd) (.alloc t) s fl R = WpV nt (some dd) s fl R (alloc1 env f dd s.m (env.zero t) (env.size t)) := by
  show WpV nt (some dd) s fl R ((env.zero t).bind fun z => (env.size t).bind _) = _
  cases env.zero t <;> cases env.size t <;> rfl
theorem alloc1_loc {n : Nat} {z : List AVal} {m : Mem} (hs : env.site f dd = false) (hl : z.length = n) (h0 : 0 < n) : alloc1 env f dd m (some z) (some n) = some (.hp (.loc (4 * dd)) (genOf m (4 * dd)) 0 0, some (newLoc (4 * dd) m (.box z))) := by
  unfold alloc1
  simp [hs, hl, h0]
theorem read_box {m : Mem} {o : OId} {g off n : Nat} {cs : List AVal} (h : m.obj o = ⟨g, .box cs⟩) : m.read o g 0 off n = sub cs off n := by
  unfold Mem.read
  simp [h]
theorem write_box {m : Mem} {k g off : Nat} {cs new : List AVal} (h : m.obj (.loc k) = ⟨g, .box cs⟩) (hn : new.all AVal.isCell = true) : m.write base (.loc k) g 0 off new = (splice cs off new).map fun cs' => m.put (.loc k) ⟨g, .box cs'⟩ := by
  unfold Mem.write
  simp only [h, mayWrite, Bool.and_true, decide_true, if_true]
  simp only [hn, if_true]
end
section
variable {env : Env} {base : Nat} {m : Mem}
def robj (x : AObj) (g i off n : Nat) : Option (List AVal) :=
  if x.gen = g then
    match x.st with
    | .ro _ es => (es[i]?).bind fun e => sub e off n
    | .row _ es => (es[i]?).bind fun e => sub e off n
    | .box cs => if i = 0 then sub cs off n else none
    | .dead => none
  else none
@[simp] theorem read_eq (o : OId) (g i off n : Nat) : m.read o g i off n = robj (m.obj o) g i off n := rfl
@[simp] theorem robj_box (g off n : Nat) (cs : List AVal) : robj ⟨g, .box cs⟩ g 0 off n = sub cs off n := by simp [robj]
@[simp] theorem robj_row (g sz i off n : Nat) (es : List (List AVal)) : robj ⟨g, .row sz es⟩ g i off n = (es[i]?).bind fun e => sub e off n := by simp [robj]
@[simp] theorem robj_ro (g sz i off n : Nat) (es : List (List AVal)) : robj ⟨g, .ro sz es⟩ g i off n = (es[i]?).bind fun e => sub e off n := by simp [robj]
theorem write_new {k : Nat} {z new : List AVal} (hl : z.length = new.length) (hn : new.all AVal.isCell = true) : (newLoc k m (.box z)).write base (.loc k) (genOf m k) 0 0 new = some ((newLoc k m (.box z)).put (.loc k) ⟨genOf m k, .box new⟩) := by
  rw [write_box (cs := z) (by simp) hn]
  have : splice z 0 new = some new := by
    unfold splice
    simp [hl]
  rw [this]; rfl
end
end Go.Abs
