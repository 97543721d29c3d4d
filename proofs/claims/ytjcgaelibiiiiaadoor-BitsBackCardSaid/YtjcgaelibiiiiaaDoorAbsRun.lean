/-
  THE ABSTRACT INTERPRETER: regions, in whatever order they are carried out. By this seat's session.
-/
import Derived.Test.YtjcgaelibiiiiaaDoorAbsCall
import Derived.LoopN
import Derived.Scope
set_option linter.unusedVariables false
set_option linter.unusedSimpArgs false
namespace Go.Abs

structure Live (env : Env) (F : Nat → Prop) (H0 N0 base nt : Nat) (A0 : Gh) (m0 : Mem) (w0 : World) (A : Gh) (act : Act) (w : World) (s : St) : Prop where
  wok : WOK env A F w s.m H0 N0
  fr : ∀ t, Rep A (Own A s.m F) w (act.tmps.getD t undef) (s.get t)
  size : act.tmps.size = nt
  defers : act.defers = []
  ext : Ext base F A0 m0 w0 A s.m w
  hb : base ≤ s.m.gs.n

section
variable {P : Program} {env : Env} {C : CallF} {F : Nat → Prop} {H0 N0 base nt : Nat} {A0 : Gh} {m0 : Mem} {w0 : World} {A : Gh} {act : Act} {w : World} {s : St} {f : FuncId}

theorem putOp_get {o : Oper} {v : AVal} {m : Option Mem} {s s' : St} (h : putOp nt o v m s = some s') : s'.m = m.getD s.m ∧ (∀ d, o.dst = some d → d < nt) ∧ ∀ t, s'.get t = if o.dst = some t then v else s.get t := by
  unfold putOp at h
  cases m with
  | none =>
    simp only at h
    split at h
    · rename_i d hd
      split at h
      · cases h
        refine ⟨rfl, fun d' hd' => by rw [hd] at hd'; cases hd'; assumption, fun t => ?_⟩
        simp only [St.get, St.set, Tbl.get_set, hd, Option.some.injEq, eq_comm]
      · cases h
    · rename_i hd
      cases h
      exact ⟨rfl, fun d hd' => (by rw [hd] at hd'; cases hd'), fun t => by simp [hd]⟩
  | some m =>
    simp only at h
    split at h
    · rename_i d hd
      split at h
      · cases h
        refine ⟨rfl, fun d' hd' => by rw [hd] at hd'; cases hd'; assumption, fun t => ?_⟩
        simp only [St.get, St.set, Tbl.get_set, hd, Option.some.injEq, eq_comm]
      · cases h
    · rename_i hd
      cases h
      exact ⟨rfl, fun d hd' => (by rw [hd] at hd'; cases hd'), fun t => by simp [hd, St.get]⟩

theorem Live.put (h : Live env F H0 N0 base nt A0 m0 w0 A act w s) {o : Oper} {v : AVal} {m : Option Mem} {s' : St} (hp : putOp nt o v m s = some s') {A' : Gh} {w' : World} {u : Value} (hW : WOK env A' F w' (m.getD s.m) H0 N0) (hX : Ext base F A s.m w A' (m.getD s.m) w') (hu : Rep A' (Own A' (m.getD s.m) F) w' u v) :
    Live env F H0 N0 base nt A0 m0 w0 A' (act.put o.dst u) w' s' := by
  obtain ⟨hm, hd, hg⟩ := putOp_get hp
  refine ⟨hm ▸ hW, fun t => ?_, ?_, ?_, hm ▸ h.ext.trans hX, by rw [hm]; exact Nat.le_trans h.hb hX.nle⟩
  · rw [hg, hm]
    split
    · rename_i e
      rw [e]
      have hlt : t < act.tmps.size := by rw [h.size]; exact hd t e
      simpa [Act.put, hlt] using hu
    · rename_i e
      have : (act.put o.dst u).tmps.getD t undef = act.tmps.getD t undef := by
        cases hq : o.dst with
        | none => rfl
        | some d =>
          have hne : d ≠ t := fun k => e (by rw [hq, k])
          simp [Act.put, Array.getElem?_setIfInBounds_ne hne]
      rw [this]
      exact (h.fr t).ext hX
  · cases hq : o.dst <;> simp [Act.put, h.size]
  · cases hq : o.dst <;> simp [Act.put, h.defers]

theorem runOp_wp (hE : EnvOK P env) (hC : Sound P env C) (h : Live env F H0 N0 base nt A0 m0 w0 A act w s) {o : Oper} {v : AVal} {m : Option Mem} (hr : runOp C env f base o s = some (v, m)) {K : Act → World → Prop} {Q : Exit → Act → World → Prop}
    (hK : ∀ u w' A', WOK env A' F w' (m.getD s.m) H0 N0 → Ext base F A s.m w A' (m.getD s.m) w' → Rep A' (Own A' (m.getD s.m) F) w' u v → K (act.put o.dst u) w') : o.wp P act w K Q := by
  unfold runOp at hr
  split at hr
  · exact aCall_spec hE hC h.wok h.hb h.fr hr hK
  · obtain ⟨u, w', A', hres, hW, hX, hu⟩ := aOp_spec hE h.wok h.hb h.fr hr
    unfold Oper.wp
    rcases hres with hres | ⟨hres, rfl⟩
    · rw [hres]; exact hK u w' A' hW hX hu
    · rw [hres]; exact hK _ w' A' hW hX hu

theorem wanted_spec {ops : Array Oper} (hfr : ∀ t, Rep A (Own A s.m F) w (act.tmps.getD t undef) (s.get t)) (hs : act.tmps.size = nt) {o : Oper} {b : Bool} (h : wantedA ops o s = some b) : Region.wanted o (yielded ops act.tmps) = b := by
  unfold wantedA at h
  unfold Region.wanted
  split at h
  · rename_i hg; rw [hg]; cases h; rfl
  · rename_i j want hg
    rw [hg]
    split at h
    · rename_i t ht
      split at h
      · rename_i c hc
        cases h
        have := hfr t
        rw [hc] at this
        have e := this.raw_inv
        have hlt : t < act.tmps.size := by
          rcases Nat.lt_or_ge t act.tmps.size with h | h
          · exact h
          · simp [Array.getElem?_eq_none h, undef] at e
        have e2 : act.tmps[t]? = some (.bool c) := by
          simp [hlt] at e ⊢; exact e
        simp only [yielded, ht, Option.bind_some, e2]
        cases c <;> cases want <;> rfl
      · rename_i vs hc
        cases h
        have := hfr t
        rw [hc] at this
        have e := this.raw_inv
        have hy : yielded ops act.tmps j = none := by
          simp only [yielded, ht, Option.bind_some]
          rcases Nat.lt_or_ge t act.tmps.size with hlt | hge
          · have e2 : act.tmps[t]? = some (.tuple vs) := by
              simp [hlt] at e ⊢; exact e
            rw [e2]
          · rw [Array.getElem?_eq_none hge]
        simp only [hy]; rfl
      · cases h
    · cases h

theorem undef_put (h : Live env F H0 N0 base nt A0 m0 w0 A act w s) {o : Oper} {s' : St} (hp : putOp nt o offV none s = some s') : Live env F H0 N0 base nt A0 m0 w0 A (act.put o.dst undef) w s' :=
  h.put hp h.wok (.refl ..) (.raw _)

/-- In the order of the text. -/
theorem runOps_wp (hE : EnvOK P env) (hC : Sound P env C) {ops : Array Oper} {Q : Exit → Act → World → Prop} : ∀ (l : List Oper) (s s' : St) (fl : List Bool) (A : Gh) (act : Act) (w : World), runOps C env f base nt ops l s = some (s', fl) → Live env F H0 N0 base nt A0 m0 w0 A act w s →
    (∀ A' act' w', Live env F H0 N0 base nt A0 m0 w0 A' act' w' s' → Q .normal act' w') → wpList P ops Q l act w
  | [], s, s', fl, A, act, w, hr, h, hQ => by
    simp only [runOps, Option.some.injEq, Prod.mk.injEq] at hr
    obtain ⟨rfl, rfl⟩ := hr
    exact hQ A act w h
  | o :: l, s, s', fl, A, act, w, hr, h, hQ => by
    simp only [runOps] at hr
    split at hr
    · cases hr
    · rename_i hw
      have := wanted_spec h.fr h.size hw
      split at hr
      · cases hr
      · rename_i s1 hp
        split at hr
        · cases hr
        · rename_i s2 fl2 hrest
          simp only [Option.some.injEq, Prod.mk.injEq] at hr
          obtain ⟨rfl, rfl⟩ := hr
          unfold wpList
          rw [this]
          simp only [Bool.false_eq_true, if_false]
          exact runOps_wp hE hC l s1 s2 fl2 A _ w hrest (undef_put h hp) hQ
    · rename_i hw
      have := wanted_spec h.fr h.size hw
      split at hr
      · cases hr
      · rename_i v m hop
        split at hr
        · cases hr
        · rename_i s1 hp
          split at hr
          · cases hr
          · rename_i s2 fl2 hrest
            simp only [Option.some.injEq, Prod.mk.injEq] at hr
            obtain ⟨rfl, rfl⟩ := hr
            unfold wpList
            rw [this]
            simp only [if_true]
            exact .inl (runOp_wp hE hC h hop fun u w' A' hW hX hu => runOps_wp hE hC l s1 s2 fl2 A' _ w' hrest (h.put hp hW hX hu) hQ)

/-! ### An operation looks at its operands, and at memory only where it touches it. -/
theorem aEval_congr {s s' : St} {x : Operand} (h : ∀ t, x = .tmp t → s.get t = s'.get t) : aEval env s x = aEval env s' x := by
  cases x with
  | tmp t => simp only [aEval]; rw [h t rfl]
  | _ => rfl
theorem mapM_congr {α β : Type} {g g' : α → Option β} : ∀ {l : List α}, (∀ x ∈ l, g x = g' x) → l.mapM g = l.mapM g'
  | [], _ => rfl
  | a :: l, h => by
    rw [List.mapM_cons, List.mapM_cons, h a (by simp), mapM_congr (fun x hx => h x (by simp [hx]))]
theorem mem_tmpsOf {o : Oper} {t : Tmp} (h : Operand.tmp t ∈ o.op.operands) : t ∈ tmpsOf o :=
  List.mem_filterMap.2 ⟨.tmp t, by simpa using h, rfl⟩
theorem aOp_congr {o : Oper} {s s' : St} (h : ∀ t ∈ tmpsOf o, s.get t = s'.get t) (hm : touches o = true → s.m = s'.m) : aOp env f base o s = aOp env f base o s' := by
  have ev : ∀ x, x ∈ o.op.operands → aEval env s x = aEval env s' x := fun x hx => aEval_congr (fun t e => h t (mem_tmpsOf (e ▸ hx)))
  have evs : ∀ l : List Operand, (∀ x ∈ l, x ∈ o.op.operands) → evals env s l = evals env s' l := fun l hl => mapM_congr (fun x hx => ev x (hl x hx))
  have evp : ∀ l : List (Nat × Operand), (∀ x ∈ l, x.2 ∈ o.op.operands) → evalParts env s l = evalParts env s' l := fun l hl => mapM_congr (fun x hx => by simp only [ev x.2 (hl x hx)])
  unfold aOp
  cases hop : o.op <;> simp only [hop, touches] at hm <;> rw [hop] at ev evs evp <;> simp only [Op.operands] at ev evs evp
  case move x => simp only [ev x (by simp)]
  case assign x => simp only [ev x (by simp)]
  case pick c a b => simp only [ev c (by simp), ev a (by simp), ev b (by simp)]
  case alloc t => simp only [hm trivial]
  case box t x => simp only [ev x (by simp), hm trivial]
  case build t ps => simp only [evp ps.toList (fun x hx => by simp; exact ⟨x.1, by simpa using hx⟩)]
  case buildSlice t n ps => simp only [evp ps.toList (fun x hx => by simp; exact ⟨x.1, by simpa using hx⟩), hm trivial]
  case load t x => simp only [ev x (by simp), hm trivial]
  case store t x y => simp only [ev x (by simp), ev y (by simp), hm trivial]
  case nilCheck x => simp only [ev x (by simp)]
  case binOp op t x y t' => simp only [ev x (by simp), ev y (by simp)]
  case unOp op t x => simp only [ev x (by simp)]
  case convert a b x => simp only [ev x (by simp)]
  case makeInterface t x => simp only [ev x (by simp)]
  case makeFunc fn first caps => simp only [evs first.toList (fun x hx => by simp; exact .inl (by simpa using hx)), evs caps.toList (fun x hx => by simp; exact .inr (by simpa using hx))]
  case makeSlice t l c => simp only [ev l (by simp), ev c (by simp), hm trivial]
  case slice t x lo hi mx =>
    have e1 : ∀ n, aHi env s hi n = aHi env s' hi n := fun n => by
      cases hi with
      | none => rfl
      | some y => simp only [aHi, ev y (by simp)]
    have e2 : ∀ n, aLo env s lo n = aLo env s' lo n := fun n => by
      cases lo with
      | none => rfl
      | some y => simp only [aLo, ev y (by simp)]
    simp only [ev x (by simp), hm trivial, e1, e2]
  case fieldAddr t x i => simp only [ev x (by simp)]
  case field t x i => simp only [ev x (by simp)]
  case indexAddr t x i => simp only [ev x (by simp), ev i (by simp), hm trivial]
  case index t x i => simp only [ev x (by simp), ev i (by simp)]
  case extract t j => simp only [ev t (by simp)]
  case call c =>
    simp only
    cases hcal : c.callee with
    | builtin b =>
      simp only
      rw [evs c.args.toList (fun x hx => by simp [Call.operands, hcal]; simpa using hx), hm trivial]
    | value _ => rfl
    | invoke _ _ => rfl
theorem aCall_congr {o : Oper} {s s' : St} (h : ∀ t ∈ tmpsOf o, s.get t = s'.get t) (hm : s.m = s'.m) : aCall C env f base o s = aCall C env f base o s' := by
  have ev : ∀ x, x ∈ o.op.operands → aEval env s x = aEval env s' x := fun x hx => aEval_congr (fun t e => h t (mem_tmpsOf (e ▸ hx)))
  have hc : callee? env s o = callee? env s' o := by
    unfold callee?
    cases hop : o.op <;> try rfl
    rename_i c
    rw [hop] at ev
    simp only [Op.operands] at ev
    simp only
    cases hcal : c.callee with
    | value fo =>
      simp only
      rw [ev fo (by simp [Call.operands, hcal])]
      have : evals env s c.args.toList = evals env s' c.args.toList := mapM_congr (fun x hx => ev x (by simp [Call.operands]; exact .inr (by simpa using hx)))
      simp only [this]
    | invoke _ _ => rfl
    | builtin _ => rfl
  unfold aCall
  rw [hc, hm]
theorem isCall_touches {o : Oper} (h : isCall o = true) : touches o = true := by
  unfold isCall at h
  unfold touches
  cases hop : o.op <;> simp only [hop] at h ⊢ <;> cases h
theorem runOp_congr {o : Oper} {s s' : St} (h : ∀ t ∈ tmpsOf o, s.get t = s'.get t) (hm : touches o = true → s.m = s'.m) : runOp C env f base o s = runOp C env f base o s' := by
  unfold runOp
  split
  · rename_i hc; exact aCall_congr h (hm (isCall_touches hc))
  · exact aOp_congr h hm

/-! ### A region whose order is open. -/
def StepA (C : CallF) (env : Env) (f base nt : Nat) (ops : Array Oper) (s s' : St) (o : Oper) (ch : Bool) : Prop :=
  (wantedA ops o s = some false ∧ putOp nt o offV none s = some s' ∧ ch = false) ∨ (wantedA ops o s = some true ∧ ∃ v m, runOp C env f base o s = some (v, m) ∧ putOp nt o v m s = some s' ∧ ch = m.isSome)
theorem runOps_trace {ops : Array Oper} : ∀ (l : List Oper) (s s' : St) (fl : List Bool), runOps C env f base nt ops l s = some (s', fl) →
    ∃ S : Nat → St, S 0 = s ∧ S l.length = s' ∧ fl.length = l.length ∧ ∀ k o, l[k]? = some o → StepA C env f base nt ops (S k) (S (k + 1)) o (fl.getD k false)
  | [], s, s', fl, h => by
    simp only [runOps, Option.some.injEq, Prod.mk.injEq] at h
    obtain ⟨rfl, rfl⟩ := h
    exact ⟨fun _ => s, rfl, rfl, rfl, by simp⟩
  | o :: l, s, s', fl, h => by
    have fin : ∀ s1 ch, StepA C env f base nt ops s s1 o ch → ∀ fl2, runOps C env f base nt ops l s1 = some (s', fl2) → fl = ch :: fl2 → ∃ S : Nat → St, S 0 = s ∧ S (o :: l).length = s' ∧ fl.length = (o :: l).length ∧ ∀ k o', (o :: l)[k]? = some o' → StepA C env f base nt ops (S k) (S (k + 1)) o' (fl.getD k false) := by
      rintro s1 ch hst fl2 hrest rfl
      obtain ⟨S, h1, h2, h3, h4⟩ := runOps_trace l s1 s' fl2 hrest
      refine ⟨fun k => match k with | 0 => s | k + 1 => S k, rfl, by simpa using h2, by simp [h3], fun k o' ho => ?_⟩
      cases k with
      | zero => simp at ho; subst ho; simpa [h1] using hst
      | succ k => simp at ho; simpa using h4 k o' ho
    simp only [runOps] at h
    split at h
    · cases h
    · rename_i hw
      split at h
      · cases h
      · rename_i s1 hp
        split at h
        · cases h
        · rename_i s2 fl2 hrest
          simp only [Option.some.injEq, Prod.mk.injEq] at h
          obtain ⟨rfl, rfl⟩ := h
          exact fin s1 false (.inl ⟨hw, hp, rfl⟩) fl2 hrest rfl
    · rename_i hw
      split at h
      · cases h
      · rename_i v m hop
        split at h
        · cases h
        · rename_i s1 hp
          split at h
          · cases h
          · rename_i s2 fl2 hrest
            simp only [Option.some.injEq, Prod.mk.injEq] at h
            obtain ⟨rfl, rfl⟩ := h
            exact fin s1 m.isSome (.inr ⟨hw, v, m, hop, hp, rfl⟩) fl2 hrest rfl

def dstOf (ops : Array Oper) (i : Nat) : Option Tmp := (ops[i]?).bind (·.dst)
/-- What a temporary holds when those of D have been carried out. -/
def lastVal (S : Nat → St) (ops : Array Oper) (D : Nat → Bool) (t : Tmp) : Nat → AVal
  | 0 => (S 0).get t
  | k + 1 => if D k = true ∧ dstOf ops k = some t then (S (k + 1)).get t else lastVal S ops D t k
def lastMem (S : Nat → St) (fl : Nat → Bool) (D : Nat → Bool) : Nat → Mem
  | 0 => (S 0).m
  | k + 1 => if D k = true ∧ fl k = true then (S (k + 1)).m else lastMem S fl D k
theorem stepA_get {ops : Array Oper} {s s' : St} {o : Oper} {ch : Bool} (h : StepA C env f base nt ops s s' o ch) {t : Tmp} (ht : o.dst ≠ some t) : s'.get t = s.get t := by
  rcases h with ⟨_, hp, _⟩ | ⟨_, v, m, _, hp, _⟩
  · rw [(putOp_get hp).2.2 t, if_neg ht]
  · rw [(putOp_get hp).2.2 t, if_neg ht]
theorem stepA_mem {ops : Array Oper} {s s' : St} {o : Oper} (h : StepA C env f base nt ops s s' o false) : s'.m = s.m := by
  rcases h with ⟨_, hp, _⟩ | ⟨_, v, m, _, hp, hm⟩
  · exact (putOp_get hp).1
  · rw [(putOp_get hp).1]
    cases m with
    | none => rfl
    | some m => simp at hm
section trace
variable {ops : Array Oper} {S : Nat → St} {fl : Nat → Bool}
theorem lastVal_at (hS : ∀ k o, ops[k]? = some o → StepA C env f base nt ops (S k) (S (k + 1)) o (fl k)) {D : Nat → Bool} {t : Tmp} {k : Nat} : ∀ n, n ≤ ops.size → k ≤ n → (∀ i, i < n → dstOf ops i = some t → (D i = true ↔ i < k)) → lastVal S ops D t n = (S k).get t
  | 0, _, hk, _ => by obtain rfl : k = 0 := (by omega); rfl
  | n + 1, hn, hk, h => by
    have hn' : n < ops.size := hn
    unfold lastVal
    by_cases hkn : k = n + 1
    · subst hkn
      split
      · rfl
      · rename_i hno
        have hd : dstOf ops n ≠ some t := fun e => hno ⟨(h n (by omega) e).2 (by omega), e⟩
        have hst := hS n ops[n] (by simp [hn'])
        have e1 := stepA_get hst (t := t) (fun e => hd (by simp [dstOf, hn', e]))
        rw [e1]
        exact lastVal_at hS n (by omega) (Nat.le_refl _) (fun i hi hdi => ⟨fun _ => hi, fun _ => (h i (by omega) hdi).2 (by omega)⟩)
    · rw [if_neg (fun ⟨h1, h2⟩ => by have := (h n (by omega) h2).1 h1; omega)]
      exact lastVal_at hS n (by omega) (by omega) (fun i hi hdi => h i (by omega) hdi)
theorem lastMem_at (hS : ∀ k o, ops[k]? = some o → StepA C env f base nt ops (S k) (S (k + 1)) o (fl k)) {D : Nat → Bool} {k : Nat} : ∀ n, n ≤ ops.size → k ≤ n → (∀ i, i < n → fl i = true → (D i = true ↔ i < k)) → lastMem S fl D n = (S k).m
  | 0, _, hk, _ => by obtain rfl : k = 0 := (by omega); rfl
  | n + 1, hn, hk, h => by
    have hn' : n < ops.size := hn
    unfold lastMem
    by_cases hkn : k = n + 1
    · subst hkn
      split
      · rfl
      · rename_i hno
        have hd : fl n = false := by
          cases hf : fl n with
          | false => rfl
          | true => exact absurd ⟨(h n (by omega) hf).2 (by omega), hf⟩ hno
        have hst := hS n ops[n] (by simp [hn'])
        rw [hd] at hst
        rw [stepA_mem hst]
        exact lastMem_at hS n (by omega) (Nat.le_refl _) (fun i hi hdi => ⟨fun _ => hi, fun _ => (h i (by omega) hdi).2 (by omega)⟩)
    · rw [if_neg (fun ⟨h1, h2⟩ => by have := (h n (by omega) h2).1 h1; omega)]
      exact lastMem_at hS n (by omega) (by omega) (fun i hi hdi => h i (by omega) hdi)
end trace
theorem lastVal_congr {ops : Array Oper} {S : Nat → St} {D D' : Nat → Bool} {t : Tmp} : ∀ n, (∀ i, i < n → dstOf ops i = some t → D i = D' i) → lastVal S ops D t n = lastVal S ops D' t n
  | 0, _ => rfl
  | n + 1, h => by
    unfold lastVal
    rw [lastVal_congr n (fun i hi => h i (by omega))]
    by_cases hd : dstOf ops n = some t
    · rw [h n (by omega) hd]
    · rw [if_neg (fun e => hd e.2), if_neg (fun e => hd e.2)]
theorem lastMem_congr {S : Nat → St} {fl D D' : Nat → Bool} : ∀ n, (∀ i, i < n → fl i = true → D i = D' i) → lastMem S fl D n = lastMem S fl D' n
  | 0, _ => rfl
  | n + 1, h => by
    unfold lastMem
    rw [lastMem_congr n (fun i hi => h i (by omega))]
    by_cases hd : fl n = true
    · rw [h n (by omega) hd]
    · rw [if_neg (fun e => hd e.2), if_neg (fun e => hd e.2)]

/-! Which operations stand ahead. -/
def Edge1 (ops : Array Oper) (j i : Nat) : Prop := ∃ o, ops[i]? = some o ∧ ∃ e ∈ o.after.toList, Region.binds .any e = true ∧ e.on = j
inductive Ahead (ops : Array Oper) : Nat → Nat → Prop where
  | one (j i : Nat) (h : Edge1 ops j i) : Ahead ops j i
  | step (j m i : Nat) (h : Edge1 ops m i) (t : Ahead ops j m) : Ahead ops j i
theorem mask_bits (acc : List Nat) (j : Nat) : ∀ (l : List Edge) (s : Nat), (l.foldl (fun s e => if Region.binds .any e then s ||| 2 ^ e.on ||| acc.getD e.on 0 else s) s).testBit j = true → s.testBit j = true ∨ ∃ e ∈ l, Region.binds .any e = true ∧ (e.on = j ∨ (acc.getD e.on 0).testBit j = true)
  | [], s, h => .inl h
  | e :: l, s, h => by
    rw [List.foldl_cons] at h
    rcases mask_bits acc j l _ h with h | ⟨e', he', hb⟩
    · split at h
      · rename_i hbd
        rw [Nat.testBit_or, Nat.testBit_or, Nat.testBit_two_pow] at h
        simp only [Bool.or_eq_true, decide_eq_true_eq] at h
        rcases h with (h | h) | h
        · exact .inl h
        · exact .inr ⟨e, by simp, hbd, .inl h⟩
        · exact .inr ⟨e, by simp, hbd, .inr h⟩
      · exact .inl h
    · exact .inr ⟨e', by simp [he'], hb⟩
theorem befGo_ahead (ops : Array Oper) : ∀ (l : List Oper) (acc : List Nat), (∀ i o, l[i]? = some o → ops[acc.length + i]? = some o) → (∀ i j, (acc.getD i 0).testBit j = true → Ahead ops j i) → ∀ i j, ((befGo l acc).getD i 0).testBit j = true → Ahead ops j i
  | [], acc, _, h, i, j, hb => h i j hb
  | o :: l, acc, hl, h, i, j, hb => by
    refine befGo_ahead ops l (acc ++ [maskOf acc o]) (fun i o' ho => ?_) (fun i j hb => ?_) i j hb
    · have := hl (i + 1) o' (by simpa using ho)
      simpa [Nat.add_assoc, Nat.add_comm 1 i] using this
    · rcases Nat.lt_trichotomy i acc.length with hi | hi | hi
      · rw [List.getD_eq_getElem?_getD, List.getElem?_append_left hi, ← List.getD_eq_getElem?_getD] at hb
        exact h i j hb
      · subst hi
        simp only [List.getD_eq_getElem?_getD, List.getElem?_concat_length, Option.getD_some] at hb
        have ho : ops[acc.length]? = some o := by simpa using hl 0 o (by simp)
        rcases mask_bits acc j _ 0 hb with h0 | ⟨e, he, hbd, hj⟩
        · simp at h0
        · rcases hj with hj | hj
          · exact .one _ _ ⟨o, ho, e, he, hbd, hj⟩
          · exact .step _ _ _ ⟨o, ho, e, he, hbd, rfl⟩ (h _ _ hj)
      · rw [List.getD_eq_getElem?_getD, List.getElem?_eq_none (by simp; omega)] at hb
        simp at hb
theorem befores_ahead {ops : Array Oper} {i j : Nat} (h : ((befores ops).getD i 0).testBit j = true) : Ahead ops j i :=
  befGo_ahead ops ops.toList [] (fun i o h => by simpa using h) (fun i j h => by simp at h) i j h
theorem Ahead.closed {ops : Array Oper} {D : Nat → Bool} (hD : ∀ i j, D i = true → Edge1 ops j i → D j = true) {i j : Nat} (h : Ahead ops j i) : D i = true → D j = true := by
  induction h with
  | one i h => exact fun hi => hD i _ hi h
  | step m i h t ih => exact fun hi => ih (hD i m hi h)
theorem Ahead.ready {ops : Array Oper} {D : Nat → Bool} (hD : ∀ i j, D i = true → Edge1 ops j i → D j = true) {i j : Nat} (h : Ahead ops j i) (hr : ∀ m, Edge1 ops m i → D m = true) : D j = true := by
  cases h with
  | one _ h => exact hr _ h
  | step m _ h t => exact t.closed hD (hr m h)
theorem Ahead.lt {ops : Array Oper} (hlt : ∀ i j, Edge1 ops j i → j < i) {i j : Nat} (h : Ahead ops j i) : j < i := by
  induction h with
  | one i h => exact hlt i _ h
  | step m i h t ih => have := hlt i m h; omega

theorem regionOk_spec {ops : Array Oper} (h : regionOk ops = true) :
    (∀ i j, Edge1 ops j i → j < i) ∧ (∀ j o g want, ops[j]? = some o → o.guard = some (g, want) → Ahead ops g j) ∧
    (∀ i j o d, i ≠ j → ops[j]? = some o → dstOf ops i = some d → (d ∈ tmpsOf o ∨ o.dst = some d ∨ ∃ g want, o.guard = some (g, want) ∧ dstOf ops g = some d) → Ahead ops i j ∨ Ahead ops j i) := by
  unfold regionOk at h
  simp only [List.all_eq_true, List.mem_range] at h
  refine ⟨fun i j hij => ?_, fun j o g want ho hg => ?_, fun i j o d hne ho hd hor => ?_⟩
  · obtain ⟨o, ho, e, he, hb, rfl⟩ := hij
    have := h i (Array.getElem?_eq_some_iff.1 ho).1
    rw [ho] at this
    simp only [Bool.and_eq_true, List.all_eq_true] at this
    have := this.1.1 e he
    simpa [hb] using this
  · have := h j (Array.getElem?_eq_some_iff.1 ho).1
    rw [ho] at this
    simp only [Bool.and_eq_true, List.all_eq_true, hg] at this
    exact befores_ahead this.1.2.1
  · have := h j (Array.getElem?_eq_some_iff.1 ho).1
    rw [ho] at this
    simp only [Bool.and_eq_true, List.all_eq_true, List.mem_range] at this
    have hi : i < ops.size := by
      rcases Nat.lt_or_ge i ops.size with h | h
      · exact h
      · simp [dstOf, Array.getElem?_eq_none h] at hd
    have := this.2 i hi
    have hd' : (ops[i]?).bind (·.dst) = some d := hd
    rw [hd'] at this
    simp only [Bool.or_eq_true, beq_iff_eq, Bool.and_eq_true, Bool.not_eq_true', bne_iff_ne] at this
    rcases this with (rfl | hc) | ⟨⟨h1, h2⟩, h3⟩
    · exact absurd rfl hne
    · unfold comparable at hc
      simp only [Bool.or_eq_true] at hc
      exact hc.imp befores_ahead befores_ahead
    · exfalso
      rcases hor with hor | hor | ⟨g, want, hg, hgd⟩
      · have : (tmpsOf o).contains d = true := by simpa using hor
        rw [this] at h1; cases h1
      · exact h2 hor
      · rw [hg] at h3
        simp only [bne_iff_ne] at h3
        exact h3 hgd
theorem drawOk_spec {ops : Array Oper} {fl : List Bool} (h : drawOk ops fl = true) (hl : fl.length = ops.size) : ∀ i, fl.getD i false = true → (∃ o, ops[i]? = some o ∧ touches o = true) ∧ ∀ j o, i ≠ j → ops[j]? = some o → touches o = true → Ahead ops i j ∨ Ahead ops j i := by
  intro i hi
  have hlt : i < ops.size := by
    rw [← hl]
    rcases Nat.lt_or_ge i fl.length with h | h
    · exact h
    · rw [List.getD_eq_getElem?_getD, List.getElem?_eq_none h] at hi; cases hi
  unfold drawOk at h
  split at h
  · simp only [List.all_eq_true, List.mem_range] at h
    have := h i hlt
    rw [hi] at this
    simp only [Bool.not_true, Bool.false_or, Bool.and_eq_true, List.all_eq_true, List.mem_range] at this
    have e0 : ops[i]? = some ops[i] := by simp [hlt]
    refine ⟨⟨ops[i], e0, by have := this.1; rw [e0] at this; simpa using this⟩, fun j o hne ho ht => ?_⟩
    have := this.2 j (Array.getElem?_eq_some_iff.1 ho).1
    rw [ho] at this
    simp only [Option.map_some, Option.getD_some, ht, Bool.not_true, Bool.or_false, Bool.or_eq_true, beq_iff_eq] at this
    rcases this with rfl | hc
    · exact absurd rfl hne
    · unfold comparable at hc
      simp only [Bool.or_eq_true] at hc
      exact hc.imp befores_ahead befores_ahead
  · rename_i hno
    exfalso
    apply hno
    refine List.any_eq_true.2 ⟨true, ?_, rfl⟩
    rw [List.getD_eq_getElem?_getD] at hi
    have : fl[i]? = some true := by
      cases hq : fl[i]? with
      | none => rw [hq] at hi; cases hi
      | some b => rw [hq] at hi; simp at hi; rw [hi]
    exact List.mem_of_getElem? this

theorem wantedA_congr {ops : Array Oper} {o : Oper} {s s' : St} (h : ∀ g want t, o.guard = some (g, want) → dstOf ops g = some t → s.get t = s'.get t) : wantedA ops o s = wantedA ops o s' := by
  unfold wantedA
  split
  · rfl
  · rename_i j want hg
    cases hd : (ops[j]?).bind (·.dst) with
    | none => rfl
    | some t => simp only [h j want t hg hd]

/-- A region whose order is drawn. -/
theorem region_wp (hE : EnvOK P env) (hC : Sound P env C) {ops : Array Oper} (hok : regionOk ops = true) {Q : Exit → Act → World → Prop} {s s' : St} {fl : List Bool} (hr : runOps C env f base nt ops ops.toList s = some (s', fl)) (hdr : drawOk ops fl = true)
    {id : Nat} (hst : Live env F H0 N0 base nt A0 m0 w0 A act w s) (hQ : ∀ s2 A' act' w', Live env F H0 N0 base nt A0 m0 w0 A' act' w' s2 → (∀ t, s2.get t = s'.get t) → s2.m = s'.m → Q .normal act' w') : (Code.region id ops true).wp P Q act w := by
  obtain ⟨S, hS0, hSn, hfl, hS⟩ := runOps_trace ops.toList s s' fl hr
  have hn : ops.toList.length = ops.size := by simp
  rw [hn] at hSn hfl
  have hS' : ∀ k o, ops[k]? = some o → StepA C env f base nt ops (S k) (S (k + 1)) o (fl.getD k false) := fun k o ho => hS k o (by simpa using ho)
  obtain ⟨hlt, hguard, htmp⟩ := regionOk_spec hok
  have hchg := drawOk_spec hdr hfl
  refine wp_region_any hE.mixed ?_
  -- the world behind the draw
  have hst1 : Live env F H0 N0 base nt A0 m0 w0 A act { w with drawn := w.drawn + 1 } s := by
    obtain ⟨q1, q2⟩ := hst.wok.world base (w' := { w with drawn := w.drawn + 1 }) (Nat.le_refl _) (fun _ _ => rfl) ⟨rfl, rfl, rfl⟩
    exact ⟨q1, fun t => (hst.fr t).ext q2, hst.size, hst.defers, hst.ext.trans q2, hst.hb⟩
  have main : ∀ (fuel : Nat) (L : List Nat) (listed : Array Bool) (A : Gh) (act : Act) (w : World) (sd : St), L.length ≤ fuel → L.Nodup → listed.size = ops.size → (∀ i, i < ops.size → (i ∈ L ↔ listed.getD i false = false)) →
      (∀ i j, listed.getD i false = true → Edge1 ops j i → listed.getD j false = true) → Live env F H0 N0 base nt A0 m0 w0 A act w sd →
      (∀ t, sd.get t = lastVal S ops (fun i => listed.getD i false) t ops.size) → sd.m = lastMem S (fun i => fl.getD i false) (fun i => listed.getD i false) ops.size →
      wpAny P .any ops Q fuel listed act w := by
    intro fuel
    induction fuel with
    | zero =>
      intro L listed A act w sd hL hnd hsz hmem hclosed hlive hget hm
      have hall : ∀ i, i < ops.size → listed.getD i false = true := by
        intro i hi
        obtain rfl : L = [] := List.eq_nil_of_length_eq_zero (by omega)
        cases hq : listed.getD i false with
        | true => rfl
        | false => have := (hmem i hi).2 hq; simp at this
      refine ⟨?_, hQ sd A act w hlive (fun t => ?_) ?_⟩
      · apply List.eq_nil_iff_forall_not_mem.2
        intro i hi
        obtain ⟨h1, o, ho, _⟩ := mem_ready.1 hi
        have hlt := (Array.getElem?_eq_some_iff.1 ho).1
        have := hall i hlt
        have hb : i < listed.size := by omega
        simp [hb] at h1 this
        rw [this] at h1; cases h1
      · rw [hget, lastVal_at hS' ops.size (Nat.le_refl _) (Nat.le_refl _) (fun i hi _ => ⟨fun _ => hi, fun _ => hall i hi⟩), hSn]
      · rw [hm, lastMem_at hS' ops.size (Nat.le_refl _) (Nat.le_refl _) (fun i hi _ => ⟨fun _ => hi, fun _ => hall i hi⟩), hSn]
    | succ fuel ih =>
      intro L listed A act w sd hL hnd hsz hmem hclosed hlive hget hm
      refine ⟨fun hnil => ?_, fun k hk => ?_⟩
      · -- nothing is ready: all has been done
        have hall : ∀ i, i < ops.size → listed.getD i false = true := by
          intro i
          induction i using Nat.strongRecOn with
          | ind i ih2 =>
            intro hi
            cases hq : listed.getD i false with
            | true => rfl
            | false =>
              exfalso
              have : i ∈ Region.ready .any ops listed := by
                refine mem_ready.2 ⟨?_, ops[i], by simp [hi], fun e he hb => ?_⟩
                · have hb : i < listed.size := by omega
                  simp [hb] at hq ⊢; exact hq
                · have hlt' := hlt i e.on ⟨ops[i], by simp [hi], e, by simpa using he, hb, rfl⟩
                  exact ih2 e.on hlt' (by omega)
              rw [hnil] at this; cases this
        refine hQ sd A act w hlive (fun t => ?_) ?_
        · rw [hget, lastVal_at hS' ops.size (Nat.le_refl _) (Nat.le_refl _) (fun i hi _ => ⟨fun _ => hi, fun _ => hall i hi⟩), hSn]
        · rw [hm, lastMem_at hS' ops.size (Nat.le_refl _) (Nat.le_refl _) (fun i hi _ => ⟨fun _ => hi, fun _ => hall i hi⟩), hSn]
      · obtain ⟨hk1, o, ho, hedge⟩ := mem_ready.1 hk
        have hklt := (Array.getElem?_eq_some_iff.1 ho).1
        have hkb : k < listed.size := by omega
        have hkD : listed.getD k false = false := by simp [hkb] at hk1 ⊢; exact hk1
        have hready : ∀ m, Edge1 ops m k → listed.getD m false = true := by
          rintro m ⟨o', ho', e, he, hb, rfl⟩
          rw [ho] at ho'; cases ho'
          exact hedge e (by simpa using he) hb
        -- those that are comparable to this one have been done just if they stand ahead
        have cmp : ∀ i, (Ahead ops i k ∨ Ahead ops k i) → (listed.getD i false = true ↔ i < k) := by
          intro i hc
          rcases hc with hc | hc
          · exact ⟨fun _ => hc.lt hlt, fun _ => hc.ready (D := fun i => listed.getD i false) hclosed hready⟩
          · refine ⟨fun hi => ?_, fun hi => ?_⟩
            · have := hc.closed (D := fun i => listed.getD i false) hclosed hi
              rw [hkD] at this; cases this
            · have := hc.lt hlt; omega
        have cmpT : ∀ t, (t ∈ tmpsOf o ∨ o.dst = some t ∨ ∃ g want, o.guard = some (g, want) ∧ dstOf ops g = some t) → ∀ i, i < ops.size → dstOf ops i = some t → (listed.getD i false = true ↔ i < k) := by
          intro t ht i hi hd
          by_cases hik : i = k
          · subst hik; rw [hkD]; simp
          · exact cmp i (htmp i k o t hik ho hd ht)
        have agree : ∀ t, (t ∈ tmpsOf o ∨ o.dst = some t ∨ ∃ g want, o.guard = some (g, want) ∧ dstOf ops g = some t) → sd.get t = (S k).get t := by
          intro t ht
          rw [hget]
          exact lastVal_at hS' ops.size (Nat.le_refl _) (by omega) (cmpT t ht)
        have cmpM : touches o = true → ∀ i, i < ops.size → fl.getD i false = true → (listed.getD i false = true ↔ i < k) := by
          intro ht i hi hf
          by_cases hik : i = k
          · subst hik; rw [hkD]; simp
          · exact cmp i ((hchg i hf).2 k o hik ho ht)
        have agreeM : touches o = true → sd.m = (S k).m := by
          intro ht
          rw [hm]
          exact lastMem_at hS' ops.size (Nat.le_refl _) (by omega) (cmpM ht)
        have hstep := hS' k o ho
        -- the list of what is left
        have hkL : k ∈ L := (hmem k hklt).2 hkD
        have hset : ∀ i, (listed.setIfInBounds k true).getD i false = (if i = k then true else listed.getD i false) := by
          intro i
          by_cases hik : i = k
          · subst hik; simp [hkb]
          · rw [if_neg hik]
            simp [Array.getElem?_setIfInBounds_ne (Ne.symm hik)]
        have next : ∀ (A' : Gh) (act' : Act) (w' : World) (sd' : St), Live env F H0 N0 base nt A0 m0 w0 A' act' w' sd' → (∀ t, sd'.get t = if o.dst = some t then (S (k + 1)).get t else sd.get t) → (fl.getD k false = true → sd'.m = (S (k + 1)).m) → (fl.getD k false = false → sd'.m = sd.m) →
            wpAny P .any ops Q fuel (listed.setIfInBounds k true) act' w' := by
          intro A' act' w' sd' hl' hg' hm1 hm2
          refine ih (L.erase k) (listed.setIfInBounds k true) A' act' w' sd' ?_ (hnd.erase k) (by simpa using hsz) ?_ ?_ hl' ?_ ?_
          · rw [List.length_erase_of_mem hkL]; omega
          · intro i hi
            rw [hset, hnd.mem_erase_iff]
            by_cases hik : i = k
            · simp [hik]
            · simp [hik, hmem i hi]
          · intro i j hi hij
            rw [hset] at hi ⊢
            by_cases hjk : j = k
            · simp [hjk]
            · rw [if_neg hjk]
              by_cases hik : i = k
              · subst hik; exact hready j hij
              · rw [if_neg hik] at hi; exact hclosed i j hi hij
          · intro t
            rw [hg']
            split
            · rename_i hd
              symm
              refine lastVal_at hS' ops.size (Nat.le_refl _) (by omega) (fun i hi hdi => ?_)
              rw [hset]
              by_cases hik : i = k
              · simp [hik]
              · rw [if_neg hik, cmpT t (.inr (.inl hd)) i hi hdi]; omega
            · rename_i hd
              rw [hget]
              refine lastVal_congr ops.size (fun i hi hdi => ?_)
              rw [hset]
              have hik : i ≠ k := by
                intro e; subst e
                apply hd
                simpa [dstOf, ho] using hdi
              rw [if_neg hik]
          · cases hf : fl.getD k false with
            | true =>
              rw [hm1 hf]
              symm
              obtain ⟨⟨o', ho', ht⟩, _⟩ := hchg k hf
              rw [ho] at ho'; cases ho'
              refine lastMem_at hS' ops.size (Nat.le_refl _) (by omega) (fun i hi hfi => ?_)
              rw [hset]
              by_cases hik : i = k
              · simp [hik]
              · rw [if_neg hik, cmpM ht i hi hfi]; omega
            | false =>
              rw [hm2 hf, hm]
              refine lastMem_congr ops.size (fun i hi hfi => ?_)
              rw [hset]
              have hik : i ≠ k := by intro e; subst e; rw [hf] at hfi; cases hfi
              rw [if_neg hik]
        unfold wpOp
        rw [ho]
        simp only
        have hwc : wantedA ops o sd = wantedA ops o (S k) := wantedA_congr (fun g want t hg hd => agree t (.inr (.inr ⟨g, want, hg, hd⟩)))
        rcases hstep with ⟨hw, hp, hch⟩ | ⟨hw, v, m, hop, hp, hch⟩
        · rw [← hwc] at hw
          have hwant := wanted_spec hlive.fr hlive.size hw
          rw [hwant]
          simp only [Bool.false_eq_true, if_false]
          obtain ⟨g1, g2, g3⟩ := putOp_get hp
          obtain ⟨sd', hp'⟩ : ∃ sd', putOp nt o offV none sd = some sd' := by
            unfold putOp
            cases hd : o.dst with
            | none => exact ⟨_, rfl⟩
            | some d => simp [g2 d hd]
          obtain ⟨e1, e2, e3⟩ := putOp_get hp'
          refine next A _ w sd' (undef_put hlive hp') (fun t => ?_) (fun hf => by rw [hch] at hf; cases hf) (fun _ => e1)
          rw [e3]
          split
          · rename_i hd; rw [g3, if_pos hd]
          · rfl
        · rw [← hwc] at hw
          have hwant := wanted_spec hlive.fr hlive.size hw
          rw [hwant]
          simp only [if_true]
          refine .inl ?_
          have hop' : runOp C env f base o sd = some (v, m) := by
            rw [runOp_congr (fun t ht => agree t (.inl ht)) agreeM]; exact hop
          refine runOp_wp hE hC hlive hop' (fun u w' A' hW hX hu => ?_)
          obtain ⟨g1, g2, g3⟩ := putOp_get hp
          obtain ⟨sd', hp'⟩ : ∃ sd', putOp nt o v m sd = some sd' := by
            unfold putOp
            cases m <;> cases hd : o.dst with
            | none => exact ⟨_, rfl⟩
            | some d => simp [g2 d hd]
          obtain ⟨e1, e2, e3⟩ := putOp_get hp'
          refine next A' _ w' sd' (hlive.put hp' hW hX hu) (fun t => ?_) (fun hf => ?_) (fun hf => ?_)
          · rw [e3]
            split
            · rename_i hd; rw [g3, if_pos hd]
            · rfl
          · rw [hch] at hf
            rw [e1, g1]
            cases m with
            | none => simp at hf
            | some m => rfl
          · rw [hch] at hf
            rw [e1]
            cases m with
            | none => rfl
            | some m => simp at hf
  have hrep : ∀ i, (Array.replicate ops.size false).getD i false = false := by
    intro i
    rcases Nat.lt_or_ge i ops.size with h | h
    · simp [h]
    · simp [Array.getElem?_eq_none, h]
  refine main ops.size (List.range ops.size) (Array.replicate ops.size false) A act _ s (by simp) List.nodup_range (by simp) (fun i hi => by simp [hrep, hi]) (fun i j hi => by rw [hrep] at hi; cases hi) hst1 (fun t => ?_) ?_
  · have := lastVal_at hS' (D := fun i => (Array.replicate ops.size false).getD i false) (t := t) (k := 0) ops.size (Nat.le_refl _) (Nat.zero_le _) (fun i hi _ => by simp [hrep])
    rw [this, hS0]
  · have := lastMem_at hS' (D := fun i => (Array.replicate ops.size false).getD i false) (k := 0) ops.size (Nat.le_refl _) (Nat.zero_le _) (fun i hi _ => by simp [hrep])
    rw [this, hS0]
end
end Go.Abs
