/-
  THE ABSTRACT INTERPRETER, walked: more fuel changes nothing; what a run answers, as a walk backwards. By this seat's session.
-/
import Derived.Test.YtjcgaelibiiiiaaDoorAbsDef
set_option linter.unusedVariables false
set_option linter.unusedSimpArgs false
namespace Go.Abs

def CallF.Le (C C' : CallF) : Prop := ∀ f args base gs r, C f args base gs = some r → C' f args base gs = some r

theorem aCall_mono {C C' : CallF} (h : C.Le C') {env : Env} {f base : Nat} {o : Oper} {s : St} {r : AVal × Option Mem} (hr : aCall C env f base o s = some r) : aCall C' env f base o s = some r := by
  unfold aCall at hr ⊢
  simp only at hr ⊢
  obtain ⟨⟨g, args⟩, h1, h2⟩ := Option.bind_eq_some_iff.1 hr
  obtain ⟨⟨args', m1⟩, h3, h4⟩ := Option.bind_eq_some_iff.1 h2
  obtain ⟨⟨rs, gs⟩, h5, h6⟩ := Option.bind_eq_some_iff.1 h4
  rw [h1, Option.bind_some, h3, Option.bind_some, h _ _ _ _ _ h5]
  exact h6
theorem runOp_mono {C C' : CallF} (h : C.Le C') {env : Env} {f base : Nat} {o : Oper} {s : St} {r : AVal × Option Mem} (hr : runOp C env f base o s = some r) : runOp C' env f base o s = some r := by
  unfold runOp at hr ⊢
  split
  · rename_i hc; rw [if_pos hc] at hr; exact aCall_mono h hr
  · rename_i hc; rw [if_neg hc] at hr; exact hr
theorem runOps_mono {C C' : CallF} (h : C.Le C') {env : Env} {f base nt : Nat} {ops : Array Oper} : ∀ (l : List Oper) (s : St) (r : St × List Bool), runOps C env f base nt ops l s = some r → runOps C' env f base nt ops l s = some r
  | [], s, r, hr => hr
  | o :: l, s, r, hr => by
    unfold runOps at hr ⊢
    split at hr
    · cases hr
    · split at hr
      · cases hr
      · rename_i s1 _
        split at hr
        · cases hr
        · rename_i s2 fl hq
          rw [runOps_mono h l _ _ hq]; exact hr
    · split at hr
      · cases hr
      · rename_i v m hv
        rw [runOp_mono h hv]
        simp only
        split at hr
        · cases hr
        · split at hr
          · cases hr
          · rename_i hq
            rw [runOps_mono h l _ _ hq]; exact hr
theorem exec_mono {C C' : CallF} (h : C.Le C') {env : Env} {f base nt : Nat} : ∀ (n m : Nat) (c : Code) (s : St) (r : AExit × St), n ≤ m → exec C env f base nt n c s = some r → exec C' env f base nt m c s = some r := by
  intro n
  induction n with
  | zero => intro m c s r _ hr; simp [exec] at hr
  | succ n ih =>
    intro m c s r hm hr
    obtain ⟨m, rfl⟩ : ∃ k, m = k + 1 := ⟨m - 1, by omega⟩
    have hm' : n ≤ m := by omega
    cases c with
    | region id ops draw =>
      unfold exec at hr ⊢
      simp only at hr ⊢
      split at hr
      · cases hr
      · rename_i hq; rw [runOps_mono h _ _ _ hq]; exact hr
    | seq a b =>
      unfold exec at hr ⊢
      simp only at hr ⊢
      split at hr
      · rename_i hq; rw [ih m _ _ _ hm' hq]; exact ih m _ _ _ hm' hr
      · rename_i hq
        have := ih m _ _ _ hm' hr
        rw [this]
        obtain ⟨e, s'⟩ := r
        cases e with
        | normal => exact absurd hr (hq s')
        | exit j => rfl
        | ret => rfl
    | cond c a b =>
      unfold exec at hr ⊢
      simp only at hr ⊢
      split at hr
      · exact ih m _ _ _ hm' hr
      · cases hr
    | block id b =>
      unfold exec at hr ⊢
      simp only at hr ⊢
      cases hq : exec C env f base nt n b s with
      | none => rw [hq] at hr; cases hr
      | some q => rw [hq] at hr; rw [ih m _ _ _ hm' hq]; exact hr
    | loop b =>
      unfold exec at hr ⊢
      simp only at hr ⊢
      cases hq : exec C env f base nt n b s with
      | none => rw [hq] at hr; cases hr
      | some q =>
        rw [hq] at hr; rw [ih m _ _ _ hm' hq]
        obtain ⟨e, s'⟩ := q
        cases e with
        | normal => exact ih m _ _ _ hm' hr
        | exit j => exact hr
        | ret => exact hr
    | scope b =>
      unfold exec at hr ⊢
      exact ih m _ _ _ hm' hr
    | _ => unfold exec at hr ⊢; exact hr
theorem call_mono (env : Env) : ∀ n m, n ≤ m → (call env n).Le (call env m) := by
  intro n
  induction n with
  | zero => intro m _ f args base gs r hr; simp [call] at hr
  | succ n ih =>
    intro m hm f args base gs r hr
    obtain ⟨m, rfl⟩ : ∃ k, m = k + 1 := ⟨m - 1, by omega⟩
    have hm' : n ≤ m := by omega
    unfold call at hr ⊢
    simp only at hr ⊢
    split at hr
    · exact hr
    · split at hr
      · cases hr
      · split at hr
        · cases hr
        · split at hr
          · rename_i hl
            rw [if_pos hl]
            split at hr
            · cases hr
            · cases hr
            · rename_i e _ hne hq
              rw [exec_mono (ih m hm') n m _ _ _ hm' hq]
              cases e with
              | exit j => exact absurd rfl (hne j)
              | normal => exact hr
              | ret => exact hr
          · cases hr

/-- With enough fuel a call answers so. -/
def Evals (env : Env) (f : FuncId) (args : List AVal) (base : Nat) (gs : GS) (r : List RV × GS) : Prop := ∃ n, call env n f args base gs = some r
def Wp (env : Env) (f base nt : Nat) (c : Code) (s : St) (Q : AExit → St → Prop) : Prop := ∃ n e s', exec (call env n) env f base nt n c s = some (e, s') ∧ Q e s'
def WpO (env : Env) (f base nt : Nat) (ops : Array Oper) (l : List Oper) (s : St) (K : St → List Bool → Prop) : Prop := ∃ n s' fl, runOps (call env n) env f base nt ops l s = some (s', fl) ∧ K s' fl

section
variable {env : Env} {f base nt : Nat} {s : St} {Q : AExit → St → Prop}
theorem exec_up {n m : Nat} (h : n ≤ m) {c : Code} {r : AExit × St} (hr : exec (call env n) env f base nt n c s = some r) : exec (call env m) env f base nt m c s = some r :=
  exec_mono (call_mono env n m h) n m c s r h hr
theorem Wp.mono {c : Code} {Q' : AExit → St → Prop} (h : Wp env f base nt c s Q) (hq : ∀ e s', Q e s' → Q' e s') : Wp env f base nt c s Q' := by
  obtain ⟨n, e, s', h1, h2⟩ := h
  exact ⟨n, e, s', h1, hq _ _ h2⟩
theorem aw_skip (h : Q .normal s) : Wp env f base nt .skip s Q := ⟨1, _, _, rfl, h⟩
theorem aw_label {l : Nat} (h : Q .normal s) : Wp env f base nt (.label l) s Q := ⟨1, _, _, rfl, h⟩
theorem aw_exit {l : Nat} (h : Q (.exit l) s) : Wp env f base nt (.exit l) s Q := ⟨1, _, _, rfl, h⟩
theorem aw_ret (h : Q .ret s) : Wp env f base nt .ret s Q := ⟨1, _, _, rfl, h⟩
def seqQ (env : Env) (f base nt : Nat) (b : Code) (Q : AExit → St → Prop) : AExit → St → Prop := fun e s' => match e with
  | .normal => Wp env f base nt b s' Q
  | e => Q e s'
theorem aw_seq {a b : Code} (h : Wp env f base nt a s (seqQ env f base nt b Q)) : Wp env f base nt (.seq a b) s Q := by
  obtain ⟨n, e, s1, h1, h2⟩ := h
  cases e with
  | normal =>
    obtain ⟨m, e2, s2, h3, h4⟩ := h2
    refine ⟨max n m + 1, e2, s2, ?_, h4⟩
    show (match exec _ env f base nt (max n m) a s with | some (.normal, s) => exec _ env f base nt (max n m) b s | r => r) = _
    rw [exec_mono (call_mono env n (max n m + 1) (by omega)) n (max n m) _ _ _ (by omega) h1]
    exact exec_mono (call_mono env m (max n m + 1) (by omega)) m (max n m) _ _ _ (by omega) h3
  | exit j =>
    refine ⟨n + 1, .exit j, s1, ?_, h2⟩
    show (match exec _ env f base nt n a s with | some (.normal, s) => exec _ env f base nt n b s | r => r) = _
    rw [exec_mono (call_mono env n (n + 1) (by omega)) n n _ _ _ (by omega) h1]
  | ret =>
    refine ⟨n + 1, .ret, s1, ?_, h2⟩
    show (match exec _ env f base nt n a s with | some (.normal, s) => exec _ env f base nt n b s | r => r) = _
    rw [exec_mono (call_mono env n (n + 1) (by omega)) n n _ _ _ (by omega) h1]
theorem aw_cond {c : Operand} {a b : Code} {t : Bool} (h : aEval env s c = some (.raw (.bool t))) (hw : Wp env f base nt (if t then a else b) s Q) : Wp env f base nt (.cond c a b) s Q := by
  obtain ⟨n, e, s1, h1, h2⟩ := hw
  refine ⟨n + 1, e, s1, ?_, h2⟩
  show (match aEval env s c with | some (.raw (.bool t)) => exec _ env f base nt n (if t then a else b) s | _ => none) = _
  rw [h]
  exact exec_mono (call_mono env n (n + 1) (by omega)) n n _ _ _ (by omega) h1
def blockQ (id : Nat) (Q : AExit → St → Prop) : AExit → St → Prop := fun e s' => match e with
  | .exit j => if j = id then Q .normal s' else Q (.exit j) s'
  | e => Q e s'
theorem aw_block {id : Nat} {b : Code} (h : Wp env f base nt b s (blockQ id Q)) : Wp env f base nt (.block id b) s Q := by
  obtain ⟨n, e, s1, h1, h2⟩ := h
  have up := exec_mono (call_mono env n (n + 1) (by omega)) n n _ _ _ (by omega) h1
  cases e with
  | normal => refine ⟨n + 1, _, s1, ?_, h2⟩; unfold exec; simp only [up]
  | ret => refine ⟨n + 1, _, s1, ?_, h2⟩; unfold exec; simp only [up]
  | exit j =>
    by_cases hj : j = id
    · simp only [blockQ, if_pos hj] at h2
      refine ⟨n + 1, _, s1, ?_, h2⟩; unfold exec; simp only [up, if_pos hj]
    · simp only [blockQ, if_neg hj] at h2
      refine ⟨n + 1, _, s1, ?_, h2⟩; unfold exec; simp only [up, if_neg hj]
theorem aw_scope {b : Code} (h : Wp env f base nt b s Q) : Wp env f base nt (.scope b) s Q := by
  obtain ⟨n, e, s1, h1, h2⟩ := h
  exact ⟨n + 1, e, s1, exec_mono (call_mono env n (n + 1) (by omega)) n n _ _ _ (by omega) h1, h2⟩
/-- One round of a loop. -/
def loopQ (env : Env) (f base nt : Nat) (b : Code) (Q : AExit → St → Prop) : AExit → St → Prop := fun e s' => match e with
  | .normal => Wp env f base nt (.loop b) s' Q
  | e => Q e s'
theorem aw_loop {b : Code} (h : Wp env f base nt b s (loopQ env f base nt b Q)) : Wp env f base nt (.loop b) s Q := by
  obtain ⟨n, e, s1, h1, h2⟩ := h
  cases e with
  | normal =>
    obtain ⟨m, e2, s2, h3, h4⟩ := h2
    refine ⟨max n m + 1, e2, s2, ?_, h4⟩
    show (match exec _ env f base nt (max n m) b s with | some (.normal, s) => exec _ env f base nt (max n m) (.loop b) s | r => r) = _
    rw [exec_mono (call_mono env n (max n m + 1) (by omega)) n (max n m) _ _ _ (by omega) h1]
    exact exec_mono (call_mono env m (max n m + 1) (by omega)) m (max n m) _ _ _ (by omega) h3
  | exit j =>
    refine ⟨n + 1, .exit j, s1, ?_, h2⟩
    show (match exec _ env f base nt n b s with | some (.normal, s) => exec _ env f base nt n (.loop b) s | r => r) = _
    rw [exec_mono (call_mono env n (n + 1) (by omega)) n n _ _ _ (by omega) h1]
  | ret =>
    refine ⟨n + 1, .ret, s1, ?_, h2⟩
    show (match exec _ env f base nt n b s with | some (.normal, s) => exec _ env f base nt n (.loop b) s | r => r) = _
    rw [exec_mono (call_mono env n (n + 1) (by omega)) n n _ _ _ (by omega) h1]
/-- A loop by its invariant, at a measure. -/
theorem aw_loop_inv {b : Code} (I : Nat → St → Prop) (k : Nat) (h0 : I k s) (hb : ∀ k s, I k s → Wp env f base nt b s (fun e s' => match e with
    | .normal => ∃ j, j < k ∧ I j s'
    | e => Q e s')) : Wp env f base nt (.loop b) s Q := by
  induction k using Nat.strongRecOn generalizing s with
  | ind k ih =>
    refine aw_loop ((hb k s h0).mono ?_)
    intro e s' h
    cases e with
    | normal => obtain ⟨j, hj, hI⟩ := h; exact ih j hj hI
    | exit j => exact h
    | ret => exact h
theorem aw_region {id : Nat} {ops : Array Oper} {draw : Bool} (h : WpO env f base nt ops ops.toList s (fun s' fl => (draw && !drawOk ops fl) = false ∧ Q .normal s')) : Wp env f base nt (.region id ops draw) s Q := by
  obtain ⟨n, s', fl, h1, h2, h3⟩ := h
  refine ⟨n + 1, .normal, s', ?_, h3⟩
  unfold exec
  simp only [runOps_mono (call_mono env n (n + 1) (by omega)) _ _ _ h1, h2, Bool.false_eq_true, if_false]
section
variable {ops : Array Oper} {o : Oper} {l : List Oper} {K : St → List Bool → Prop}
def oneV (vs : List AVal) : AVal :=
  match vs with
  | [v] => v
  | vs => .tup vs
theorem wpo_nil (h : K s []) : WpO env f base nt ops [] s K := ⟨0, _, _, rfl, h⟩
theorem wpo_op {v : AVal} {m : Option Mem} {s1 : St} (hw : wantedA ops o s = some true) (hc : isCall o = false) (ho : aOp env f base o s = some (v, m)) (hp : putOp nt o v m s = some s1)
    (h : WpO env f base nt ops l s1 (fun s' fl => K s' (m.isSome :: fl))) : WpO env f base nt ops (o :: l) s K := by
  obtain ⟨n, s', fl, h1, h2⟩ := h
  refine ⟨n, s', _, ?_, h2⟩
  unfold runOps
  simp only [hw, runOp, hc, Bool.false_eq_true, if_false, ho, hp, h1]
theorem wpo_off {s1 : St} (hw : wantedA ops o s = some false) (hp : putOp nt o offV none s = some s1)
    (h : WpO env f base nt ops l s1 (fun s' fl => K s' (false :: fl))) : WpO env f base nt ops (o :: l) s K := by
  obtain ⟨n, s', fl, h1, h2⟩ := h
  refine ⟨n, s', _, ?_, h2⟩
  unfold runOps
  simp only [hw, hp, h1]
theorem wpo_call {g : FuncId} {args args' : List AVal} {m1 : Option Mem} {rs0 rs : List RV} {gs : GS} {vs : List AVal} {m3 : Mem} {s1 : St} (hw : wantedA ops o s = some true) (hc : isCall o = true)
    (h1 : callee? env s o = some (g, args)) (h2 : passVs base s.m args = some (args', m1)) (h3 : Evals env g args' (if env.eff g then base else (m1.getD s.m).gs.n) (m1.getD s.m).gs (rs0, gs)) (hrs : asSeen (env.pureApp f (o.dst.getD 0)) rs0 = rs) (h4 : rs.length ≤ 4)
    (h5 : placeL (env.site f (o.dst.getD 0)) (4 * o.dst.getD 0) (if env.eff g then { (m1.getD s.m) with gs := gs } else m1.getD s.m) rs = (vs, m3))
    (h6 : putOp nt o (oneV vs) (if env.eff g || rs.any isRow then some m3 else m1) s = some s1)
    (h : WpO env f base nt ops l s1 (fun s' fl => K s' ((if env.eff g || rs.any isRow then some m3 else m1).isSome :: fl))) : WpO env f base nt ops (o :: l) s K := by
  obtain ⟨n, s', fl, h7, h8⟩ := h
  obtain ⟨n2, h3⟩ := h3
  refine ⟨max n n2, s', _, ?_, h8⟩
  have e1 : aCall (call env (max n n2)) env f base o s = some (oneV vs, if env.eff g || rs.any isRow then some m3 else m1) := by
    unfold aCall
    simp only [h1, Option.bind_some, h2]
    rw [call_mono env n2 (max n n2) (by omega) _ _ _ _ _ h3]
    simp only [Option.bind_some, hrs, if_pos h4, h5]
    rfl
  have e2 := runOps_mono (call_mono env n (max n n2) (by omega)) _ _ _ h7
  unfold runOps
  simp only [hw, runOp, hc, if_true, e1, h6, e2]
end
/-- A function, by a walk through its body. -/
theorem evals_of_wp {g : FuncId} {fn : Func} {c : Code} {args : List AVal} {gs : GS} {r : List RV × GS} (he : env.ext g = none) (hf : env.funcs g = some fn) (hb : fn.body = some c) (hl : args.length ≤ fn.ntmps)
    (h : Wp env g base fn.ntmps c ⟨enterFr args, ⟨⟨[]⟩, gs⟩⟩ (fun e s => (e = .normal ∨ e = .ret) ∧ ((fn.results.toList.mapM (resultOf env s)).bind fun rs => (gives (env.eff g) base s.m rs).map fun (rs, m) => (rs, m.gs)) = some r)) : Evals env g args base gs r := by
  obtain ⟨n, e, s, h1, h2, h3⟩ := h
  refine ⟨n + 1, ?_⟩
  unfold call
  simp only [he, hf, hb, if_pos hl, h1]
  rcases h2 with rfl | rfl <;> exact h3
end
end Go.Abs
