/-
  THE ABSTRACT INTERPRETER: from a row's reading to abstract values, and back to its closing condition. By this seat's session.
-/
import Derived.Test.YtjcgaelibiiiiaaDoorAbsEnv
import Derived.ReadAgain
import Derived.WalkKit
import Derived.ProofKit
import Derived.OpenShut
import Derived.Carry
import Derived.SizedLaws
import Derived.JoinedCond
import Derived.Deep.Slices
set_option linter.unusedVariables false
set_option linter.unusedSimpArgs false
namespace Go.Abs
open Go.ChangeShapes Go.WideShapes Go.ChangeAt Go.RowKit

/-- What the arguments' cells are, type by type. -/
def TyA (P : Program) : Nat → TypeId → List AVal → Prop
  | 0, _, _ => False
  | n + 1, t, cs =>
    match P.underlying t with
    | some .bool => ∃ b, cs = [.raw (.bool b)]
    | some (.int k) => ∃ z, cs = [.raw (.int k z)] ∧ (Lit.int k z).wf = true
    | some .string => ∃ s : ByteArray, cs = [.raw (.string s)] ∧ s.size ≤ maxLen
    | some (.slice e) => ∃ es, cs = [.sl es] ∧ es.length ≤ maxLen ∧ ∀ c ∈ es, TyA P n e c
    | some (.struct fs) => cs.length = P.cellsOf t ∧ ∀ f ∈ fs.toList, TyA P n f.type ((cs.drop f.offset).take (P.cellsOf f.type))
    | _ => False
def rowed (P : Program) : Nat → List Field → Option Nat
  | k, [] => some k
  | k, f :: fs => if f.offset = k then rowed P (k + P.cellsOf f.type) fs else none
/-- Types of plain data. -/
def plainTy (P : Program) : Nat → TypeId → Bool
  | 0, _ => false
  | n + 1, t =>
    match P.underlying t with
    | some .bool => true
    | some (.int _) => true
    | some .string => true
    | some (.slice e) => plainTy P n e && decide (0 < P.cellsOf e)
    | some (.struct fs) => fs.toList.all (fun f => plainTy P n f.type) && rowed P 0 fs.toList == some (P.cellsOf t)
    | _ => false

section
variable {H : Type} {enc : TypeId × Value → H} {P : Program} {w : World} {base : Nat} {spare : Nat → Bool} {held : Bool} {A : Gh} {X : Nat → Prop}

theorem rowed_le : ∀ (fs : List Field) (k m : Nat), rowed P k fs = some m → k ≤ m
  | [], k, m, h => by simp [rowed] at h; omega
  | f :: fs, k, m, h => by
    unfold rowed at h
    split at h
    · have := rowed_le fs _ _ h; omega
    · cases h

theorem rowed_abs {n : Nat} {cells : List Value} : ∀ (fs : List Field) (k : Nat), rowed P k fs = some cells.length →
    (∀ f ∈ fs, ∃ cs, TyA P n f.type cs ∧ RepL A X w ((cells.drop f.offset).take (P.cellsOf f.type)) cs ∧ ∀ a ∈ cs, a.fixed = true) →
    ∃ cs, RepL A X w (cells.drop k) cs ∧ (∀ a ∈ cs, a.fixed = true) ∧ ∀ f ∈ fs, k ≤ f.offset ∧ TyA P n f.type ((cs.drop (f.offset - k)).take (P.cellsOf f.type))
  | [], k, h, _ => by
    simp [rowed] at h
    exact ⟨[], by rw [h, List.drop_length]; exact .nil, by simp, by simp⟩
  | f :: fs, k, h, hf => by
    unfold rowed at h
    split at h
    · rename_i ho
      have hle := rowed_le fs _ _ h
      obtain ⟨c1, t1, r1, x1⟩ := hf f (by simp)
      obtain ⟨c2, r2, x2, t2⟩ := rowed_abs fs _ h (fun g hg => hf g (by simp [hg]))
      have hl : c1.length = P.cellsOf f.type := by rw [← r1.1]; simp; omega
      refine ⟨c1 ++ c2, ?_, fun a ha => ?_, fun g hg => ?_⟩
      · have e : cells.drop k = (cells.drop k).take (P.cellsOf f.type) ++ (cells.drop k).drop (P.cellsOf f.type) := (List.take_append_drop _ _).symm
        rw [e]
        refine RepL.append (by rw [← ho]; exact r1) ?_
        rw [List.drop_drop]
        exact r2
      · rcases List.mem_append.1 ha with h | h
        · exact x1 a h
        · exact x2 a h
      · rcases List.mem_cons.1 hg with rfl | hg
        · refine ⟨by omega, ?_⟩
          rw [ho, Nat.sub_self, List.drop_zero, List.take_append_of_le_length (by omega), List.take_of_length_le (by omega)]
          exact t1
        · obtain ⟨q1, q2⟩ := t2 g hg
          refine ⟨by omega, ?_⟩
          rw [List.drop_append, List.drop_eq_nil_of_le (by omega), List.nil_append, hl, show g.offset - k - P.cellsOf f.type = g.offset - (k + P.cellsOf f.type) by omega]
          exact q2
    · cases h

/-- The cells of a reading, as abstract values. -/
theorem trod_abs (hX : ∀ b, ¬ X b) : ∀ (n m : Nat) (t : TypeId) (cells : List Value) (d : DataW H × List MemPlace), plainTy P n t = true → DataW.trod enc P w base spare held m t cells = some d →
    ∃ cs, TyA P n t cs ∧ RepL A X w cells cs ∧ ∀ a ∈ cs, a.fixed = true := by
  intro n
  induction n with
  | zero => intro m t cells d hp h; simp [plainTy] at hp
  | succ n ih =>
    intro m t cells d hp h
    have one : ∀ v : Value, rawCell v = true → RepL A X w [v] [.raw v] ∧ ∀ a ∈ [AVal.raw v], a.fixed = true := fun v hv => ⟨.cons (.raw v) .nil, fun a ha => by simp at ha; subst ha; exact hv⟩
    unfold plainTy at hp
    unfold TyA
    split at hp
    · rename_i hu
      obtain ⟨b, rfl, _⟩ := DataW.trod_bool hu h
      exact ⟨_, ⟨b, rfl⟩, one _ rfl⟩
    · rename_i k hu
      obtain ⟨b, rfl, _, hw⟩ := DataW.trod_int hu h
      exact ⟨_, ⟨b, rfl, hw⟩, one _ rfl⟩
    · rename_i hu
      obtain ⟨b, rfl, _, hw⟩ := DataW.trod_string hu h
      exact ⟨_, ⟨b, rfl, hw⟩, one _ rfl⟩
    · rename_i e hu
      simp only [Bool.and_eq_true, decide_eq_true_eq] at hp
      rcases Deep.open_slice hu h with ⟨rfl, rfl⟩ | ⟨a, len, cap, q, k, D, Pl, rfl, hb, hl, hm, hq, rfl, hall⟩
      · exact ⟨[.sl []], ⟨[], rfl, by simp, by simp⟩, .cons (.nil _ _) .nil, fun a ha => by simp at ha; subst ha; rfl⟩
      · have hq' : len ≤ q := by subst hq; split <;> omega
        have each : ∀ i, ∃ cs, i < len → (TyA P n e cs ∧ ∃ us, w.cells? base (a.add (i * P.cellsOf e)) (P.cellsOf e) = some us ∧ RepL A X w us cs ∧ ∀ a ∈ cs, a.fixed = true) := by
          intro i
          by_cases hi : i < len
          · obtain ⟨us, h1, h2⟩ := hall i (by omega)
            obtain ⟨cs, t1, r1, x1⟩ := ih k e us _ hp.1 h2
            exact ⟨cs, fun _ => ⟨t1, us, h1, r1, x1⟩⟩
          · exact ⟨[], fun h => absurd h hi⟩
        obtain ⟨E, hE⟩ := Classical.axiomOfChoice each
        refine ⟨[.sl ((List.range len).map E)], ⟨_, rfl, by simp; omega, fun c hc => ?_⟩, .cons ?_ .nil, fun a ha => by simp at ha; subst ha; rfl⟩
        · obtain ⟨i, hi, rfl⟩ := List.mem_map.1 hc
          exact (hE i (by simpa using hi)).1
        · have hget : ∀ (i : Nat) (c : List AVal), ((List.range len).map E)[i]? = some c → i < len ∧ c = E i := by
            intro i c hc
            obtain ⟨h1, h2⟩ := List.getElem?_eq_some_iff.1 hc
            have hi : i < len := by simpa using h1
            refine ⟨hi, ?_⟩
            simpa using h2.symm
          refine .sl a len cap (P.cellsOf e) _ (fun i j => (w.cell? (a.add (i * P.cellsOf e + j))).getD Go.undef) hp.2 (by simp) hl (fun c hc => ?_) (fun i c j x h1 h2 => ?_) (fun i c j x h1 h2 => ?_)
          · obtain ⟨i, hi, rfl⟩ := List.mem_map.1 hc
            obtain ⟨_, us, g1, g2, _⟩ := hE i (by simpa using hi)
            rw [← g2.1]; exact (World.cells?_some g1).2.1
          · obtain ⟨hi, rfl⟩ := hget i c h1
            obtain ⟨_, us, g1, g2, g3⟩ := hE i hi
            obtain ⟨_, k2, k3⟩ := World.cells?_some g1
            have hj : j < P.cellsOf e := by rw [← k2, g2.1]; exact (List.getElem?_eq_some_iff.1 h2).1
            have := k3 j hj
            rw [Addr.add_add] at this
            refine ⟨g3 x (List.mem_of_getElem? h2), hX _, ?_⟩
            rw [this, List.getElem?_eq_getElem (by omega)]; rfl
          · obtain ⟨hi, rfl⟩ := hget i c h1
            obtain ⟨_, us, g1, g2, g3⟩ := hE i hi
            obtain ⟨_, k2, k3⟩ := World.cells?_some g1
            have hj : j < P.cellsOf e := by rw [← k2, g2.1]; exact (List.getElem?_eq_some_iff.1 h2).1
            have := k3 j hj
            rw [Addr.add_add] at this
            have h3 := g2.2 j x h2
            rw [this, List.getElem?_eq_getElem (by omega)]
            simpa [List.getD_eq_getElem?_getD, List.getElem?_eq_getElem (by omega : j < us.length)] using h3
    · rename_i fs hu
      simp only [Bool.and_eq_true, beq_iff_eq] at hp
      obtain ⟨xs, k, _, rfl, hlen, hxl, hf⟩ := DataW.trod_struct hu h
      obtain ⟨cs, r, x, t1⟩ := rowed_abs (P := P) (A := A) (X := X) (w := w) (n := n) (cells := cells) fs.toList 0 (by rw [hlen]; exact hp.2) (fun f hfm => by
        obtain ⟨i, hi, rfl⟩ := List.getElem_of_mem hfm
        have hi' : i < fs.size := by simpa using hi
        have := hf i fs[i] (by simp [hi'])
        rw [List.getElem?_eq_getElem (by omega)] at this
        exact ih k _ _ _ (List.all_eq_true.1 hp.1 _ hfm) this)
      rw [List.drop_zero] at r
      exact ⟨cs, ⟨by rw [← r.1, hlen], fun f hfm => by simpa using (t1 f hfm).2⟩, r, x⟩
    · cases hp

/-- An argument. -/
def argA (P : Program) (t : TypeId) (cs : List AVal) : AVal :=
  match P.underlying t with
  | some (.struct _) => .agg cs
  | _ => cs.getD 0 .undef
theorem trod_arg (hX : ∀ b, ¬ X b) {n : Nat} {t : TypeId} {v : Value} {d : DataW H} {ps : List MemPlace} {r : Reach} {b0 : Nat} (hp : plainTy P n t = true) (hval : Value.okWide P w r b0 t v) (h : DataW.Trod enc P w base spare held t v d ps) :
    ∃ cs, TyA P n t cs ∧ Rep A X w v (argA P t cs) ∧ argOK (argA P t cs) = true := by
  obtain ⟨m, hm⟩ := h
  obtain ⟨cs, t1, r1, x1⟩ := trod_abs (A := A) (X := X) hX n m t _ _ hp hm
  refine ⟨cs, t1, ?_⟩
  have plain : ∀ c : AVal, cs = [c] → v.oneCell' = true → Rep A X w v (cs.getD 0 .undef) ∧ argOK (cs.getD 0 .undef) = true := by
    rintro c rfl hv
    rw [cells_one hv] at r1
    exact ⟨by simpa using r1.head, fixed_argOK (x1 c (by simp))⟩
  cases n with
  | zero => simp [plainTy] at hp
  | succ n =>
    unfold plainTy at hp
    unfold TyA at t1
    unfold argA
    unfold Value.okWide at hval
    split at hp
    · rename_i hu
      rw [hu] at t1 hval ⊢
      obtain ⟨b, e⟩ := t1
      refine plain _ e ?_
      simp only [Cell.okWide, hu, Cell.ok] at hval
      split at hval <;> first | rfl | exact absurd hval id | simp_all
    · rename_i k hu
      rw [hu] at t1 hval ⊢
      obtain ⟨b, e, _⟩ := t1
      refine plain _ e ?_
      simp only [Cell.okWide, hu, Cell.ok] at hval
      split at hval <;> first | rfl | exact absurd hval id | simp_all
    · rename_i hu
      rw [hu] at t1 hval ⊢
      obtain ⟨b, e, _⟩ := t1
      refine plain _ e ?_
      simp only [Cell.okWide, hu, Cell.ok] at hval
      split at hval <;> first | rfl | exact absurd hval id | simp_all
    · rename_i hu
      rw [hu] at t1 hval ⊢
      obtain ⟨b, e, _⟩ := t1
      refine plain _ e ?_
      simp only [Cell.okWide, hu, Cell.ok] at hval
      split at hval <;> first | rfl | exact absurd hval id | simp_all
    · rename_i fs hu
      rw [hu] at t1 hval ⊢
      obtain ⟨arr, rfl, _, _⟩ := hval
      refine ⟨.agg arr cs (by simpa [Value.cells] using r1.1) (fun j x hx => by simpa [Value.cells] using r1.2 j x hx), ?_⟩
      show cs.all AVal.shared = true
      exact List.all_eq_true.2 fun a ha => fixed_shared (x1 a ha)
    · cases hp

/-- All arguments. -/
inductive ArgsA (P : Program) (n : Nat) : List TypeId → List AVal → Prop where
  | nil : ArgsA P n [] []
  | cons (t : TypeId) (ts : List TypeId) (cs : List AVal) (as : List AVal) (h : TyA P n t cs) (r : ArgsA P n ts as) : ArgsA P n (t :: ts) (argA P t cs :: as)
theorem trodAll_abs (hX : ∀ b, ¬ X b) {n : Nat} {r : Reach} {b0 : Nat} : ∀ (ts : List TypeId) (vs : List Value) (ds : List (DataW H)) (ps : List MemPlace), ts.all (plainTy P n) = true → (∀ (j : Nat) t v, ts[j]? = some t → vs[j]? = some v → Value.okWide P w r b0 t v) →
    DataW.TrodAll enc P w base spare held ts vs ds ps → ∃ as, ArgsA P n ts as ∧ RepL A X w vs as ∧ as.all argOK = true
  | [], [], [], ps, _, _, _ => ⟨[], .nil, .nil, rfl⟩
  | t :: ts, v :: vs, d :: ds, ps, hp, hv, ⟨p, q, h1, h2, _⟩ => by
    simp only [List.all_cons, Bool.and_eq_true] at hp
    obtain ⟨cs, t1, r1, o1⟩ := trod_arg (A := A) hX hp.1 (hv 0 t v rfl rfl) h1
    obtain ⟨as, t2, r2, o2⟩ := trodAll_abs hX ts vs ds q hp.2 (fun j t v e1 e2 => hv (j + 1) t v (by simpa using e1) (by simpa using e2)) h2
    exact ⟨_, .cons t ts cs as t1 t2, .cons r1 r2, by simp [o1, o2]⟩

/-- A law's closing condition: true is returned, and below the old heap's end nothing has turned. -/
theorem post_true {fn : Func} {s : ChangeSpec} {apart fresh handsOn again : Bool} {W W' : World} {args : Array Value} {ds gs : List (DataW H)} {before : List MemPlace} {tb : TypeId}
    (hl : laidOutB P = true) (hm : mapsRowed P = true) (hz : ∀ t e, t < P.types.size → P.underlying t = some (.slice e) → 0 < P.cellsOf e) (hT : ∀ t ∈ fn.params.toList, t < P.types.size)
    (hvars : s.vars = []) (hb : Below W.heap.size W W') (hres : fn.resultTypes = #[tb]) (htb : P.underlying tb = some .bool)
    (hs : (s.fn H (ds ++ gs)).results = [.lit (.bool true)]) (hs2 : (s.fn H (ds ++ gs)).args = ds) (hs3 : (s.fn H (ds ++ gs)).vars = [])
    (hW : DataW.Whole enc P fn.params.toList s.vars apart W args.toList ds gs before) : s.post enc P fn apart fresh handsOn again W args (.bool true) W' := by
  have hW' := hW
  obtain ⟨p, q, hA, hV, rfl, hfz, hnd⟩ := hW
  rw [hvars] at hV
  obtain ⟨rfl, rfl⟩ := trodVars_none hV
  rw [List.append_nil] at *
  have hlt := hA.lt
  have hA' : DataW.TrodAll enc P W' 0 (fun _ => true) true fn.params.toList args.toList ds p := by
    have go : ∀ (ts : List TypeId) (vs : List Value) (ds : List (DataW H)) (ps : List MemPlace), DataW.TrodAll enc P W 0 (fun _ => true) true ts vs ds ps → (∀ x ∈ ps, x.block < W.heap.size) → DataW.TrodAll enc P W' 0 (fun _ => true) true ts vs ds ps := by
      intro ts
      induction ts with
      | nil => intro vs ds ps h _; cases vs <;> cases ds <;> first | exact h | exact absurd h id
      | cons t ts ih =>
        intro vs ds ps h hx
        cases vs with
        | nil => cases ds <;> exact absurd h id
        | cons v vs =>
          cases ds with
          | nil => exact absurd h id
          | cons d ds =>
            obtain ⟨a, b, ⟨m, h1⟩, h2, e⟩ := h
            subst e
            exact ⟨a, b, ⟨m, DataW.trod_carry m _ _ _ h1 (fun x hxx => hb.same (hx x (List.mem_append_left _ hxx)))⟩, ih _ _ _ h2 (fun x hxx => hx x (List.mem_append_right _ hxx)), rfl⟩
    exact go _ _ _ _ hA hlt
  have hargs : ∀ sp : Nat → Bool, (∀ x ∈ p, sp x.block = true) → DataW.TrodAll enc P W' 0 sp true fn.params.toList args.toList ds p :=
    fun sp hsp => hA'.respare (kids_rows hl hm) hz hT hsp
  have hvr : ∀ sp : Nat → Bool, DataW.TrodVars enc P W' sp s.vars ([] : List (DataW H)) [] := fun sp => by rw [hvars]; exact rfl
  have hr : ∀ (b : Nat) (sp : Nat → Bool) (hd : Bool), DataW.TrodAll enc P W' b sp hd fn.resultTypes.toList ((Value.bool true).resultList fn.resultTypes.size) [.lit (.bool true)] [] := by
    intro b sp hd
    rw [hres]
    exact trodAll_cons_mk (shut_bool htb _) trodAll_mk0
  refine ⟨ds, [], p, [], p, [], hW', by rw [List.append_nil, hs]; exact hr _ _ _, by rw [List.append_nil, hs2]; exact hargs _ (fun x hx => by simpa using hlt x hx), by rw [List.append_nil, hs3]; exact hvr _, hb.frame _, fun _ => ⟨ok_one hres rfl (okWide_bool_mk htb _), _, _, ([] ++ p) ++ [], ⟨[] ++ p, [], trodAll_append (hargs _ (fun _ _ => rfl)) (hr _ _ _), hvr _, rfl, ?_, ?_⟩, ?_⟩⟩
  · intro b off hp
    have hp' : MemPlace.cell b off ∈ p := by simpa using hp
    rw [hb.frozen (hlt _ hp')]
    exact hfz b off (by simpa using hp')
  · intro ha
    simpa using hnd ha
  · intro x hx _
    simpa using hx

/-- What a call shows that answers a plain value and writes nothing of its callers'. -/
theorem calls_raw {W : World} {env : Env} (hE : EnvOK P env) (hX : ExtOK P env) (hgl : ∀ g cs, env.globals g = some cs → Rep (fun _ _ => none) (fun _ => False) W (.pointer (some ⟨g, 0, none⟩)) (.ip cs)) {f : FuncId} (heff : env.eff f = false) {avs : List AVal} {vs : List Value} (hr : RepL (fun _ _ => none) (fun _ => False) W vs avs) (hok : avs.all argOK = true)
    {n : Nat} {gs' : GS} {r : Value} (hc : call env n f avs 0 ⟨⟨[]⟩, 0⟩ = some ([.v (.raw r)], gs')) :
    Calls P f vs.toArray W fun e W' => e = .returned r ∧ Below W.heap.size W W' := by
  obtain ⟨_, hcall⟩ := call_sound hE hX n f avs 0 ⟨⟨[]⟩, 0⟩ _ _ hc hok (Nat.le_refl _) (fun _ => rfl)
  have dead : ∀ o, (Mem.obj ⟨noL, ⟨⟨[]⟩, 0⟩⟩ o) = AObj.none := by
    intro o
    cases o with
    | loc k => exact obj_noL _ k
    | glob k => simp [Mem.obj, Tbl.get_nil]
  have own : ∀ b, ¬ Own (fun _ _ => none) ⟨noL, ⟨⟨[]⟩, 0⟩⟩ (fun _ => False) b := by
    rintro b (h | ⟨o, s, t, _, h⟩)
    · exact h
    · cases h
  have e : Own (fun _ _ => none) ⟨noL, ⟨⟨[]⟩, 0⟩⟩ (fun _ => False) = fun _ => False := by funext b; simp [own b]
  refine (hcall (fun _ _ => none) (fun _ => False) W vs (fun _ _ => rfl) ?_ (by rw [e]; exact hr)).mono ?_
  · refine { obj := fun o => by rw [dead]; trivial, inj := ?_, sep := ?_, bound := fun b h => h.elim, gens := fun _ _ _ => rfl, gn := fun k _ => ⟨by rw [dead]; rfl, fun _ => rfl⟩, fresh := ?_, nle := Nat.le_refl _, hle := Nat.le_refl _, glob := fun g cs h => by rw [e]; exact hgl g cs h }
    · intro o o' b s t s' t' _ _ h; cases h
    · intro o b s t _ h; cases h
    · intro o _ b s t _ h; cases h
  · rintro ev W' ⟨v, rfl, A', B, us, rfl, _, hX, _, _, _, hg, _⟩
    cases hg with
    | v _ _ _ _ _ hv ht =>
      cases ht
      cases hv
      refine ⟨rfl, ⟨hX.os, hX.tape, hX.output, hX.size, fun b hb => hX.heap b hb ?_⟩⟩
      rintro ⟨o, s, t, h, _⟩
      rw [dead] at h
      simp [AObj.none, ownedSt] at h
/-- What a call of a law's function shows, behind the walk. -/
theorem law_of_call {W : World} {env : Env} (hE : EnvOK P env) (hX : ExtOK P env) (hgl : ∀ g cs, env.globals g = some cs → Rep (fun _ _ => none) (fun _ => False) W (.pointer (some ⟨g, 0, none⟩)) (.ip cs)) {f : FuncId} (heff : env.eff f = false) {avs : List AVal} {vs : List Value} (hr : RepL (fun _ _ => none) (fun _ => False) W vs avs) (hok : avs.all argOK = true)
    {n : Nat} {gs' : GS} (hc : call env n f avs 0 ⟨⟨[]⟩, 0⟩ = some ([.v (.raw (.bool true))], gs')) :
    Calls P f vs.toArray W fun e W' => e = .returned (.bool true) ∧ Below W.heap.size W W' := calls_raw hE hX hgl heff hr hok hc
/-- A law's contract, out of its run over abstract arguments. -/
theorem law_contract {env : Env} (hE : EnvOK P env) (hX : ExtOK P env) {f : FuncId} {fn : Func} {s : ChangeSpec} {apart fresh handsOn again : Bool} {tb : TypeId} {k : Nat}
    (hl : laidOutB P = true) (hm : mapsRowed P = true) (hz : ∀ t e, t < P.types.size → P.underlying t = some (.slice e) → 0 < P.cellsOf e) (hT : ∀ t ∈ fn.params.toList, t < P.types.size)
    (hp : fn.params.toList.all (plainTy P k) = true) (heff : env.eff f = false)
    (hvars : s.vars = []) (hres : fn.resultTypes = #[tb]) (htb : P.underlying tb = some .bool)
    (hs : ∀ ds : List (DataW H), ds.length = fn.params.toList.length → (s.fn H ds).results = [.lit (.bool true)] ∧ (s.fn H ds).args = ds ∧ (s.fn H ds).vars = [])
    (run : ∀ as, ArgsA P k fn.params.toList as → ∃ n gs', call env n f as 0 ⟨⟨[]⟩, 0⟩ = some ([.v (.raw (.bool true))], gs'))
    {W : World} (hgl : ∀ g cs, env.globals g = some cs → Rep (fun _ _ => none) (fun _ => False) W (.pointer (some ⟨g, 0, none⟩)) (.ip cs))
    {base : Nat} {args : Array Value} {ds gs : List (DataW H)} {before : List MemPlace}
    (hval : ∀ (j : Nat) t v, fn.params[j]? = some t → args[j]? = some v → Value.okWide P W .any base t v)
    (hW : DataW.Whole enc P fn.params.toList s.vars apart W args.toList ds gs before) :
    Calls P f args W fun e W' => ∃ v, e = .returned v ∧ s.post enc P fn apart fresh handsOn again W args v W' := by
  have hW' := hW
  obtain ⟨p, q, hA, hV, rfl, _, _⟩ := hW
  rw [hvars] at hV
  obtain ⟨rfl, rfl⟩ := trodVars_none hV
  obtain ⟨avs, hT', hR, hO⟩ := trodAll_abs (A := fun _ _ => none) (X := fun _ => False) (fun _ h => h) (n := k) _ _ _ _ hp (fun j t v h1 h2 => hval j t v (by simpa using h1) (by simpa using h2)) hA
  have hlen : ds.length = fn.params.toList.length := by
    have go : ∀ (ts : List TypeId) (vs : List Value) (ds : List (DataW H)) (ps : List MemPlace), DataW.TrodAll enc P W 0 (fun _ => true) true ts vs ds ps → ds.length = ts.length := by
      intro ts
      induction ts with
      | nil => intro vs ds ps h; cases vs <;> cases ds <;> first | rfl | exact absurd h id
      | cons t ts ih =>
        intro vs ds ps h
        cases vs with
        | nil => cases ds <;> exact absurd h id
        | cons v vs =>
          cases ds with
          | nil => exact absurd h id
          | cons d ds =>
            obtain ⟨a, b, _, h2, _⟩ := h
            simp [ih _ _ _ h2]
    exact go _ _ _ _ hA
  obtain ⟨n, gs', hn⟩ := run avs hT'
  have hc := law_of_call hE hX hgl heff hR hO hn
  rw [Array.toArray_toList] at hc
  obtain ⟨s1, s2, s3⟩ := hs (ds ++ []) (by simpa using hlen)
  exact hc.mono fun e W' ⟨he, hb⟩ => ⟨_, he, post_true hl hm hz hT hvars hb hres htb s1 (by simpa using s2) s3 hW'⟩
end
end Go.Abs
