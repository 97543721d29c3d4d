/-
  THE ABSTRACT INTERPRETER: each operation that is no call is right. By this seat's session.
-/
import Derived.Test.YtjcgaelibiiiiaaDoorAbsOpD
set_option linter.unusedVariables false
set_option linter.unusedSimpArgs false
namespace Go.Abs

/-- What an operation comes to. -/
def OpRes (env : Env) (base : Nat) (F : Nat → Prop) (H0 N0 : Nat) (A : Gh) (m : Mem) (w : World) (r : Result Next) (a : AVal) (m1 : Option Mem) : Prop :=
  ∃ v w' A', (r = .ok (.value v) w' ∨ (r = .ok .skip w' ∧ v = undef)) ∧ WOK env A' F w' (m1.getD m) H0 N0 ∧ Ext base F A m w A' (m1.getD m) w' ∧ Rep A' (Own A' (m1.getD m) F) w' v a

section
variable {P : Program} {env : Env} {base : Nat} {F : Nat → Prop} {H0 N0 : Nat} {A : Gh} {w : World} {s : St}

theorem OpRes.same {m : Mem} (h : WOK env A F w m H0 N0) {r : Result Next} {v : Value} {a : AVal} (hr : r = .ok (.value v) w) (hv : Rep A (Own A m F) w v a) : OpRes env base F H0 N0 A m w r a none :=
  ⟨v, w, A, .inl hr, h, .refl .., hv⟩

/-- The world has grown, and the memory is as it was. -/
theorem WOK.world {m : Mem} (h : WOK env A F w m H0 N0) (base : Nat) {w' : World} (hs : w.heap.size ≤ w'.heap.size) (hh : ∀ b, b < w.heap.size → w'.heap[b]? = w.heap[b]?) (ho : w'.os = w.os ∧ w'.tape = w.tape ∧ w'.output = w.output) :
    WOK env A F w' m H0 N0 ∧ Ext base F A m w A m w' := by
  have hext : Ext base F A m w A m w' := { le := .refl _, size := hs, os := ho.1, tape := ho.2.1, output := ho.2.2, heap := fun b hb _ => hh b hb, own := fun _ _ h => h, wr := fun _ _ h => h, keep := fun _ b s t h1 h2 _ => ⟨s, t, h1, h2⟩, keepG := fun _ _ => rfl, nle := Nat.le_refl _ }
  have hX : ∀ b, b < w.heap.size → ¬ Own A m F b → w'.heap[b]? = w.heap[b]? := fun b hb _ => hh b hb
  refine ⟨{ obj := fun o => ?_, inj := h.inj, sep := h.sep, bound := fun b hb => Nat.lt_of_lt_of_le (h.bound b hb) hs, gens := h.gens, gn := h.gn, fresh := h.fresh, nle := h.nle, hle := Nat.le_trans h.hle hs, glob := fun gl cs hg => (h.glob gl cs hg).ext hext }, hext⟩
  have hob := h.obj o
  unfold ObjOK at hob ⊢
  cases hst : (m.obj o).st with
  | dead => trivial
  | ro s es =>
    rw [hst] at hob
    obtain ⟨b, a', t', fr, h1, h2, h3, h4⟩ := hob
    exact ⟨b, a', t', fr, h1, by rw [hh b (Array.getElem?_eq_some_iff.1 h2).1]; exact h2, h3.mono (.refl _) hX (fun _ _ h => h), h4⟩
  | row s es =>
    rw [hst] at hob
    obtain ⟨b, a', t', h1, h2, h3⟩ := hob
    exact ⟨b, a', t', h1, by rw [hh b (Array.getElem?_eq_some_iff.1 h2).1]; exact h2, h3.mono (.refl _) hX (fun _ _ h => h)⟩
  | box cs =>
    rw [hst] at hob
    obtain ⟨b, a', t', h1, h2, h3, h4⟩ := hob
    exact ⟨b, a', t', h1, by rw [hh b (Array.getElem?_eq_some_iff.1 h2).1]; exact h2, h3.ext hext, h4⟩
theorem WOK.alloc {m : Mem} (h : WOK env A F w m H0 N0) (base : Nat) (ob : Obj) : WOK env A F (w.alloc ob) m H0 N0 ∧ Ext base F A m w A m (w.alloc ob) :=
  h.world base (by rw [alloc_size]; omega) (fun b hb => by rw [alloc_heap, if_neg (by omega)]) ⟨rfl, rfl, rfl⟩
theorem WOK.own_lt {m : Mem} (h : WOK env A F w m H0 N0) {b : Nat} (hb : Own A m F b) : b < w.heap.size := by
  rcases hb with hF | ⟨o, s, t', h1, h2⟩
  · exact h.bound b hF
  · exact A_lt h (owned_live h1) h2

theorem add_add (a : Addr) (m n : Nat) : (a.add m).add n = a.add (m + n) := by
  unfold Addr.add
  by_cases h1 : m = 0 <;> by_cases h2 : n = 0 <;> simp [h1, h2, Nat.add_assoc]
theorem ip_drop {X : Nat → Prop} {ad : Addr} {cs : List AVal} (h : Rep A X w (.pointer (some ad)) (.ip cs)) (off : Nat) : Rep A X w (.pointer (some (ad.add off))) (.ip (cs.drop off)) := by
  cases h with
  | ip _ _ f hm hr =>
    refine .ip _ _ (fun j => f (off + j)) (fun j x hx => ?_) (fun j x hx => ?_)
    · rw [List.getElem?_drop] at hx
      rw [add_add, add_block]
      exact hm _ x hx
    · rw [List.getElem?_drop] at hx
      exact hr _ x hx

theorem run_equalIn_bool (d : Nat) {t : TypeId} (hu : P.underlying t = some .bool) (a b : Bool) (w : World) : (Op.equalIn (d + 1) t (.bool a) (.bool b)).run P w = .ok (a == b) w := by
  simp [Op.equalIn, run_underlying hu]
theorem run_equal_bool {t : TypeId} (hu : P.underlying t = some .bool) (a b : Bool) (w : World) : (Op.equal t (.bool a) (.bool b)).run P w = .ok (a == b) w := run_equalIn_bool 9999 hu a b w
theorem bin_spec (hE : EnvOK P env) {X : Nat → Prop} {op : BinOp} {t : TypeId} {x y r : AVal} (h : aBin env op t x y = some r) (ox oy : Operand) {vx vy : Value} (hx : Rep A X w vx x) (hy : Rep A X w vy y) :
    ∃ v, (do eqGuard op t ox oy vx vy; binOp op t vx vy : Sem Value).run P w = .ok v w ∧ Rep A X w v r := by
  unfold aBin at h
  split at h
  · rename_i k a k' b
    have e1 := hx.raw_inv
    have e2 := hy.raw_inv
    subst e1; subst e2
    have hg : (eqGuard op t ox oy (.int k a) (.int k' b)).run P w = .ok () w := by unfold eqGuard; cases op <;> simp
    split at h
    · obtain ⟨u, hu, rfl⟩ := Option.map_eq_some_iff.1 h
      refine ⟨u, ?_, .raw u⟩
      simp only [Sem.run_bind, hg, Result.andThen_ok]
      unfold aShift at hu
      split at hu
      · cases hu
      · rename_i hb
        simp only [Option.some.injEq] at hu
        subst hu
        simp [binOp, Op.shift, hb]
    · obtain ⟨u, hu, rfl⟩ := Option.map_eq_some_iff.1 h
      refine ⟨u, ?_, .raw u⟩
      simp only [Sem.run_bind, hg, Result.andThen_ok]
      unfold aShift at hu
      split at hu
      · cases hu
      · rename_i hb
        simp only [Option.some.injEq] at hu
        subst hu
        simp [binOp, Op.shift, hb]
    · split at h
      · rename_i hk
        subst hk
        split at h
        · obtain ⟨u, hu, rfl⟩ := Option.map_eq_some_iff.1 h
          refine ⟨u, ?_, .raw u⟩
          simp only [Sem.run_bind, hg, Result.andThen_ok]
          cases op <;> simp only [aInt, Option.some.injEq] at hu <;> first
            | (subst hu; simp [binOp, Op.intArith, Op.intBits, Op.intCmp]; done)
            | (split at hu
               · cases hu
               · rename_i hb; simp only [Option.some.injEq] at hu; subst hu; simp [binOp, Op.intDiv, hb])
            | cases hu
        · cases h
      · cases h
  · rename_i a b
    have e1 := hx.raw_inv
    have e2 := hy.raw_inv
    subst e1; subst e2
    have hg : (eqGuard op t ox oy (.bool a) (.bool b)).run P w = .ok () w := by unfold eqGuard; cases op <;> simp
    split at h
    · rename_i hu
      cases h
      refine ⟨_, ?_, .raw _⟩
      simp only [Sem.run_bind, hg, Result.andThen_ok]
      show ((do pure (.bool (← Op.equal t (.bool a) (.bool b)))) : Sem Value).run P w = _
      simp [run_equal_bool (hE.under _ _ hu)]
    · rename_i hu
      cases h
      refine ⟨_, ?_, .raw _⟩
      simp only [Sem.run_bind, hg, Result.andThen_ok]
      show ((do pure (.bool (!(← Op.equal t (.bool a) (.bool b))))) : Sem Value).run P w = _
      simp [run_equal_bool (hE.under _ _ hu)]
    · cases h
  · rename_i a b
    have e1 := hx.raw_inv
    have e2 := hy.raw_inv
    subst e1; subst e2
    obtain ⟨u, hu, rfl⟩ := Option.map_eq_some_iff.1 h
    refine ⟨u, ?_, .raw u⟩
    have hg : (eqGuard op t ox oy (.string a) (.string b)).run P w = .ok () w := by unfold eqGuard; cases op <;> simp
    simp only [Sem.run_bind, hg, Result.andThen_ok]
    unfold aStr at hu
    split at hu
    · split at hu
      · rename_i hle
        cases hu
        have h' : ¬ (((a.size + b.size : Nat) : Int) > IntKind.i64.max) := by
          have : IntKind.i64.max = 9223372036854775807 := rfl
          rw [this]; omega
        simp [binOp, Op.stringOp, h']
        omega
      · cases hu
    all_goals first | (cases hu; simp [binOp, Op.stringOp]; done) | (cases hu; done)
  · rename_i xs ys
    obtain ⟨vs, rfl, hs1, hr1⟩ := hx.agg_inv
    obtain ⟨us, rfl, hs2, hr2⟩ := hy.agg_inv
    have key : ∀ n b, env.eqs t = some n → xs.length = n → ys.length = n → eqCells xs ys = some b → P.eqGuardType P.depth t = false ∧ (Op.equal t (.agg vs) (.agg us)).run P w = .ok b w := by
      intro n b he h1 h2 hc
      obtain ⟨hq, hall⟩ := hE.eqs t n he
      refine ⟨hq, ?_⟩
      have plain : ∀ (cs ds : List AVal) (b : Bool), eqCells cs ds = some b → ∀ (j : Nat) (x : AVal), cs[j]? = some x → ∃ u, x = .raw u ∧ ∃ k z, u = .int k z := by
        intro cs
        induction cs with
        | nil => intro ds b _ j x hx; simp at hx
        | cons c cs ih =>
          intro ds b hb j x hx
          cases ds with
          | nil => simp [eqCells] at hb
          | cons d ds =>
            simp only [eqCells] at hb
            split at hb
            · rename_i h1 h2
              cases j with
              | zero =>
                simp at hx; subst hx
                unfold eqCell at h1
                split at h1
                · exact ⟨_, rfl, _, _, rfl⟩
                · cases h1
              | succ j => simp at hx; exact ih _ _ h2 j x hx
            · cases hb
      have sym : ∀ (cs ds : List AVal) (b : Bool), eqCells cs ds = some b → ∃ b', eqCells ds cs = some b' := by
        intro cs
        induction cs with
        | nil => intro ds b hb; cases ds <;> simp_all [eqCells]
        | cons c cs ih =>
          intro ds b hb
          cases ds with
          | nil => simp [eqCells] at hb
          | cons d ds =>
            simp only [eqCells] at hb ⊢
            split at hb
            · rename_i h1 h2
              obtain ⟨b2, hb2⟩ := ih _ _ h2
              have : ∃ b3, eqCell d c = some b3 := by
                unfold eqCell at h1
                split at h1
                · split at h1
                  · rename_i hk; subst hk; simp [eqCell]
                  · cases h1
                · cases h1
              obtain ⟨b3, hb3⟩ := this
              rw [hb3, hb2]; exact ⟨_, rfl⟩
            · cases hb
      have conv : ∀ (zs : Array Value) (cs : List AVal), zs.size = cs.length → (∀ j x, cs[j]? = some x → Rep A X w (zs.getD j undef) x) → (∀ (j : Nat) (x : AVal), cs[j]? = some x → ∃ u, x = .raw u ∧ ∃ k z, u = .int k z) → cs = zs.toList.map AVal.raw ∧ ∀ u ∈ zs.toList, ∃ k z, u = .int k z := by
        intro zs cs hz hrep hp
        have hget : ∀ j (hj : j < zs.size), cs[j]? = some (.raw zs[j]) ∧ ∃ k z, zs[j] = .int k z := by
          intro j hj
          have hj' : j < cs.length := by omega
          obtain ⟨u, hu, hk⟩ := hp j cs[j] (List.getElem?_eq_getElem hj')
          have h1 := hrep j cs[j] (List.getElem?_eq_getElem hj')
          rw [hu] at h1
          have h2 := h1.raw_inv
          simp [hj] at h2
          rw [List.getElem?_eq_getElem hj', hu, h2]
          exact ⟨rfl, hk⟩
        refine ⟨?_, fun u hu => ?_⟩
        · apply List.ext_getElem?
          intro j
          rcases Nat.lt_or_ge j zs.size with hj | hj
          · rw [(hget j hj).1]; simp [hj]
          · rw [List.getElem?_eq_none (by omega), List.getElem?_eq_none (by simp; omega)]
        · obtain ⟨j, hj, rfl⟩ := List.getElem_of_mem hu
          have := (hget j (by simpa using hj)).2
          simpa using this
      obtain ⟨b', hb'⟩ := sym _ _ _ hc
      obtain ⟨c1, p1⟩ := conv vs xs hs1 hr1 (plain _ _ _ hc)
      obtain ⟨c2, p2⟩ := conv us ys hs2 hr2 (plain _ _ _ hb')
      rw [c1, c2] at hc
      exact hall vs us w (by omega) (by omega) p1 p2 b hc
    have guard : P.eqGuardType P.depth t = false → ∀ op, (eqGuard op t ox oy (.agg vs) (.agg us)).run P w = .ok () w := by
      intro hq op
      unfold eqGuard
      cases op <;> simp [program, Sem.run, hq]
    split at h
    · rename_i n he
      split at h
      · rename_i hc
        simp only [Bool.and_eq_true, decide_eq_true_eq] at hc
        obtain ⟨b, hb, rfl⟩ := Option.map_eq_some_iff.1 h
        obtain ⟨hq, hrun⟩ := key n b he hc.1 hc.2 hb
        refine ⟨_, ?_, .raw _⟩
        simp only [Sem.run_bind, guard hq, Result.andThen_ok]
        show ((do pure (.bool (← Op.equal t (.agg vs) (.agg us)))) : Sem Value).run P w = _
        simp [hrun]
      · cases h
    · rename_i n he
      split at h
      · rename_i hc
        simp only [Bool.and_eq_true, decide_eq_true_eq] at hc
        obtain ⟨b, hb, rfl⟩ := Option.map_eq_some_iff.1 h
        obtain ⟨hq, hrun⟩ := key n b he hc.1 hc.2 hb
        refine ⟨_, ?_, .raw _⟩
        simp only [Sem.run_bind, guard hq, Result.andThen_ok]
        show ((do pure (.bool (!(← Op.equal t (.agg vs) (.agg us))))) : Sem Value).run P w = _
        simp [hrun]
      · cases h
    · cases h
  · cases h
theorem eqn_slice {t e : TypeId} (hu : P.underlying t = some (.slice e)) (d : Nat) (ad : Addr) (n c : Nat) : (Op.equalIn (d + 1) t (.slice (some ad) n c) (.slice none 0 0)).run P w = .ok false w := by simp [Op.equalIn, run_underlying hu]
theorem eqn_ptr {t e : TypeId} (hu : P.underlying t = some (.pointer e)) (d : Nat) (ad : Addr) : (Op.equalIn (d + 1) t (.pointer (some ad)) (.pointer none)).run P w = .ok false w := by simp [Op.equalIn, run_underlying hu]
theorem eqn_ptr0 {t e : TypeId} (hu : P.underlying t = some (.pointer e)) (d : Nat) : (Op.equalIn (d + 1) t (.pointer none) (.pointer none)).run P w = .ok true w := by simp [Op.equalIn, run_underlying hu]
theorem eqn_if {t : TypeId} {ms : Array (String × TypeId)} (hu : P.underlying t = some (.interface ms)) (d : Nat) (u : TypeId) (v : Value) : (Op.equalIn (d + 1) t (.iface u v) .nilIface).run P w = .ok false w := by simp [Op.equalIn, run_underlying hu]
theorem eqn_if0 {t : TypeId} {ms : Array (String × TypeId)} (hu : P.underlying t = some (.interface ms)) (d : Nat) : (Op.equalIn (d + 1) t .nilIface .nilIface).run P w = .ok true w := by simp [Op.equalIn, run_underlying hu]
theorem eqn_fn {t : TypeId} {a b : Array TypeId} {c : Bool} (hu : P.underlying t = some (.func a b c)) (d : Nat) (g : Fn) (x y : Array Value) : (Op.equalIn (d + 1) t (.func g x y) .nilFunc).run P w = .ok false w := by simp [Op.equalIn, run_underlying hu]
theorem nilCmp_spec (hE : EnvOK P env) {X : Nat → Prop} {op : BinOp} {t : TypeId} {x r : AVal} {c : Value} (h : nilCmp env op t x c = some r) (ox : Operand) {vx : Value} (hx : Rep A X w vx x) :
    ∃ v, (do eqGuard op t ox (.const c) vx c; binOp op t vx c : Sem Value).run P w = .ok v w ∧ Rep A X w v r := by
  have fin : ∀ b : Bool, boolIs op b = some r → (∀ o, (eqGuard o t ox (.const c) vx c).run P w = .ok () w) → (Op.equal t vx c).run P w = .ok b w → (∀ o, (o = .eql → binOp o t vx c = (do pure (.bool (← Op.equal t vx c)))) ∧ (o = .neq → binOp o t vx c = (do pure (.bool (!(← Op.equal t vx c)))))) →
      ∃ v, (do eqGuard op t ox (.const c) vx c; binOp op t vx c : Sem Value).run P w = .ok v w ∧ Rep A X w v r := by
    intro b hb hg he hbin
    unfold boolIs at hb
    split at hb
    · cases hb
      refine ⟨_, ?_, .raw _⟩
      simp only [Sem.run_bind, hg, Result.andThen_ok, (hbin .eql).1 rfl, he, Sem.run_pure]
    · cases hb
      refine ⟨_, ?_, .raw _⟩
      simp only [Sem.run_bind, hg, Result.andThen_ok, (hbin .neq).2 rfl, he, Sem.run_pure]
    · cases hb
  unfold nilCmp at h
  split at h
  · rename env.under t = some _ => hu
    obtain ⟨ad, c', sz, f, rfl, _⟩ := hx.sl_inv' (by simp)
    refine fin false h (fun o => ?_) ?_ (fun o => ⟨fun e => ?_, fun e => ?_⟩)
    · unfold eqGuard; cases o <;> simp
    · exact eqn_slice (hE.under _ _ hu) 9999 _ _ _
    · subst e; rfl
    · subst e; rfl
  · rename env.under t = some _ => hu
    obtain ⟨b, sz, tot, c', _, _, _, rfl⟩ := hx.hs_inv
    refine fin false h (fun o => ?_) ?_ (fun o => ⟨fun e => ?_, fun e => ?_⟩)
    · unfold eqGuard; cases o <;> simp
    · exact eqn_slice (hE.under _ _ hu) 9999 _ _ _
    · subst e; rfl
    · subst e; rfl
  · rename env.under t = some _ => hu
    obtain ⟨b, sz, tot, _, rfl⟩ := hx.hp_inv
    refine fin false h (fun o => ?_) ?_ (fun o => ⟨fun e => ?_, fun e => ?_⟩)
    · unfold eqGuard; cases o <;> simp
    · exact eqn_ptr (hE.under _ _ hu) 9999 _
    · subst e; rfl
    · subst e; rfl
  · rename env.under t = some _ => hu
    obtain ⟨ad, rfl⟩ := hx.ip_inv
    refine fin false h (fun o => ?_) ?_ (fun o => ⟨fun e => ?_, fun e => ?_⟩)
    · unfold eqGuard; cases o <;> simp
    · exact eqn_ptr (hE.under _ _ hu) 9999 _
    · subst e; rfl
    · subst e; rfl
  · rename env.under t = some _ => hu
    have e1 := hx.raw_inv
    subst e1
    refine fin true h (fun o => ?_) ?_ (fun o => ⟨fun e => ?_, fun e => ?_⟩)
    · unfold eqGuard; cases o <;> simp
    · exact eqn_ptr0 (hE.under _ _ hu) 9999
    · subst e; rfl
    · subst e; rfl
  · rename env.under t = some _ => hu
    obtain ⟨u, rfl, _⟩ := hx.iface_inv
    refine fin false h (fun o => ?_) ?_ (fun o => ⟨fun e => ?_, fun e => ?_⟩)
    · unfold eqGuard; cases o <;> simp
    · exact eqn_if (hE.under _ _ hu) 9999 _ _
    · subst e; rfl
    · subst e; rfl
  · rename env.under t = some _ => hu
    have e1 := hx.raw_inv
    subst e1
    refine fin true h (fun o => ?_) ?_ (fun o => ⟨fun e => ?_, fun e => ?_⟩)
    · unfold eqGuard; cases o <;> simp
    · exact eqn_if0 (hE.under _ _ hu) 9999
    · subst e; rfl
    · subst e; rfl
  · rename env.under t = some _ => hu
    obtain ⟨fs, cs, rfl, _⟩ := hx.clo_inv
    refine fin false h (fun o => ?_) ?_ (fun o => ⟨fun e => ?_, fun e => ?_⟩)
    · unfold eqGuard; cases o <;> simp
    · exact eqn_fn (hE.under _ _ hu) 9999 _ _ _
    · subst e; rfl
    · subst e; rfl
  · cases h
end
end Go.Abs
