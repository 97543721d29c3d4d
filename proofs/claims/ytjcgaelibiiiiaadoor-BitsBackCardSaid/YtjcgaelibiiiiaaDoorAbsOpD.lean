/-
  THE ABSTRACT INTERPRETER: what the operations of the model come to. By this seat's session.
-/
import Derived.Test.YtjcgaelibiiiiaaDoorAbsOpC
import Derived.Laws.Tables
import Derived.Great.BuildSlice
set_option linter.unusedVariables false
set_option linter.unusedSimpArgs false
namespace Go.Abs

section inv
variable {A : Gh} {X : Nat → Prop} {w : World} {v : Value}
theorem Rep.raw_inv {u : Value} (h : Rep A X w v (.raw u)) : v = u := by cases h; rfl
theorem Rep.hp_inv {o : OId} {g i off : Nat} (h : Rep A X w v (.hp o g i off)) : ∃ b sz tot, A o g = some (b, sz, tot) ∧ v = .pointer (some ⟨b, i * sz + off, none⟩) := by cases h with | hp _ _ _ _ b sz tot hA => exact ⟨b, sz, tot, hA, rfl⟩
theorem Rep.hs_inv {o : OId} {g lo n : Nat} (h : Rep A X w v (.hs o g lo n)) : ∃ b sz tot c, A o g = some (b, sz, tot) ∧ n ≤ c ∧ (lo + c) * sz ≤ tot ∧ v = .slice (some ⟨b, lo * sz, none⟩) n c := by cases h with | hs _ _ _ _ c b sz tot hA hc ht => exact ⟨b, sz, tot, c, hA, hc, ht, rfl⟩
theorem Rep.ip_inv {cs : List AVal} (h : Rep A X w v (.ip cs)) : ∃ ad, v = .pointer (some ad) := by cases h with | ip ad _ f hm hr => exact ⟨ad, rfl⟩
theorem Rep.agg_inv {cs : List AVal} (h : Rep A X w v (.agg cs)) : ∃ vs, v = .agg vs ∧ vs.size = cs.length ∧ ∀ (j : Nat) (x : AVal), cs[j]? = some x → Rep A X w (vs.getD j Go.undef) x := by cases h with | agg vs _ h1 h2 => exact ⟨vs, rfl, h1, h2⟩
theorem Rep.tup_inv {cs : List AVal} (h : Rep A X w v (.tup cs)) : ∃ vs, v = .tuple vs ∧ vs.size = cs.length ∧ ∀ (j : Nat) (x : AVal), cs[j]? = some x → Rep A X w (vs.getD j Go.undef) x := by cases h with | tup vs _ h1 h2 => exact ⟨vs, rfl, h1, h2⟩
theorem Rep.clo_inv {g : FuncId} {first caps : List AVal} (h : Rep A X w v (.clo g first caps)) : ∃ fs cs, v = .func (.func g) fs cs ∧ fs.size = first.length ∧ cs.size = caps.length ∧ (∀ (j : Nat) (x : AVal), first[j]? = some x → Rep A X w (fs.getD j Go.undef) x) ∧ (∀ (j : Nat) (x : AVal), caps[j]? = some x → Rep A X w (cs.getD j Go.undef) x) := by cases h with | clo _ fs cs _ _ h1 h2 r1 r2 => exact ⟨fs, cs, rfl, h1, h2, r1, r2⟩
theorem Rep.e0_inv (h : Rep A X w v .e0) : ∃ a, v = .slice a 0 0 := by cases h with | e0 a => exact ⟨a, rfl⟩
theorem Rep.iface_inv {t : TypeId} {a : AVal} (h : Rep A X w v (.iface t a)) : ∃ u, v = .iface t u ∧ Rep A X w u a := by cases h with | iface _ u _ h => exact ⟨u, rfl, h⟩
theorem Rep.sl_inv {es : List (List AVal)} (h : Rep A X w v (.sl es)) : ∃ ad c, v = .slice ad es.length c ∧ es.length ≤ c := by
  cases h with
  | nil a c => exact ⟨a, c, rfl, Nat.zero_le _⟩
  | sl ad n c sz _ f h0 hn hc _ _ _ => subst hn; exact ⟨_, c, rfl, hc⟩
theorem Rep.sl_inv' {es : List (List AVal)} (h : Rep A X w v (.sl es)) (hne : es ≠ []) : ∃ (ad : Addr) (c sz : Nat) (f : Nat → Nat → Value), v = .slice (some ad) es.length c ∧ 0 < sz ∧ es.length ≤ c ∧ (∀ e ∈ es, e.length = sz) ∧ (∀ i e j x, es[i]? = some e → e[j]? = some x → x.fixed = true ∧ ¬ X ad.block ∧ w.cell? (ad.add (i * sz + j)) = some (f i j)) ∧ (∀ i e j x, es[i]? = some e → e[j]? = some x → Rep A X w (f i j) x) := by
  cases h with
  | nil a c => exact absurd rfl hne
  | sl ad n c sz _ f h0 hn hc hl hm hr => subst hn; exact ⟨ad, c, sz, f, rfl, h0, hc, hl, hm, hr⟩
end inv

theorem ofCell_rep {v : Value} {a : AVal} (h : ofConst.ofCell v = some a) (A : Gh) (X : Nat → Prop) (w : World) : Rep A X w v a ∧ v.oneCell' = true := by
  unfold ofConst.ofCell at h
  split at h
  · cases h; exact ⟨.e0 none, rfl⟩
  all_goals first
    | cases h; done
    | skip
  cases h
  refine ⟨.raw v, ?_⟩
  cases v <;> first | rfl | (simp_all; done)
theorem mapM_get {α β : Type} {f : α → Option β} : ∀ {l : List α} {r : List β}, l.mapM f = some r → r.length = l.length ∧ ∀ (j : Nat) (x : α), l[j]? = some x → ∃ y, r[j]? = some y ∧ f x = some y
  | [], r, h => by simp at h; subst h; exact ⟨rfl, by simp⟩
  | a :: l, r, h => by
    rw [List.mapM_cons] at h
    cases ha : f a with
    | none => simp [ha] at h
    | some b =>
      cases hl : l.mapM f with
      | none => simp [ha, hl] at h
      | some bs =>
        simp [ha, hl] at h
        subst h
        obtain ⟨h1, h2⟩ := mapM_get hl
        refine ⟨by simp [h1], fun j x hx => ?_⟩
        cases j with
        | zero => simp at hx; subst hx; exact ⟨b, by simp, ha⟩
        | succ j => simp at hx; simpa using h2 j x hx
theorem mapM_rep {A : Gh} {X : Nat → Prop} {w : World} {l : List Value} {r : List AVal} (h : l.mapM ofConst.ofCell = some r) : RepL A X w l r ∧ ∀ u ∈ l, u.oneCell' = true := by
  obtain ⟨h1, h2⟩ := mapM_get h
  refine ⟨⟨h1.symm, fun j x hx => ?_⟩, fun u hu => ?_⟩
  · have hj : j < l.length := by rw [← h1]; exact (List.getElem?_eq_some_iff.1 hx).1
    obtain ⟨y, hy, hf⟩ := h2 j l[j] (List.getElem?_eq_getElem hj)
    rw [hx] at hy; cases hy
    simpa [List.getD_eq_getElem?_getD, List.getElem?_eq_getElem hj] using (ofCell_rep hf A X w).1
  · obtain ⟨j, hj, rfl⟩ := List.getElem_of_mem hu
    obtain ⟨y, hy, hf⟩ := h2 j l[j] (List.getElem?_eq_getElem hj)
    exact (ofCell_rep hf A X w).2
theorem ofConst_rep {v : Value} {a : AVal} (h : ofConst v = some a) (A : Gh) (X : Nat → Prop) (w : World) : Rep A X w v a := by
  unfold ofConst at h
  split at h
  · cases h; exact .e0 none
  · cases h
  · obtain ⟨r, hr, rfl⟩ := Option.map_eq_some_iff.1 h
    rename_i cs
    have := (mapM_rep (A := A) (X := X) (w := w) hr).1
    exact .agg cs r (by simpa using this.1) (fun j x hx => by simpa using this.2 j x hx)
  all_goals first
    | cases h; done
    | skip
  cases h
  exact .raw v

theorem eval_spec {env : Env} {A : Gh} {F : Nat → Prop} {w : World} {s : St} {H0 N0 : Nat} (h : WOK env A F w s.m H0 N0) {act : Act} (hfr : ∀ t, Rep A (Own A s.m F) w (act.tmps.getD t undef) (s.get t)) {x : Operand} {a : AVal} (he : aEval env s x = some a) : Rep A (Own A s.m F) w (act.eval x) a := by
  cases x with
  | tmp t => simp only [aEval, Option.some.injEq] at he; subst he; exact hfr t
  | const v => exact ofConst_rep he A _ w
  | global g =>
    simp only [aEval, Option.map_eq_some_iff] at he
    obtain ⟨cs, hg, rfl⟩ := he
    exact h.glob g cs hg
  | func f => simp only [aEval, Option.some.injEq] at he; subst he; exact .clo f #[] #[] [] [] rfl rfl (by simp) (by simp)

theorem evals_spec {env : Env} {A : Gh} {F : Nat → Prop} {w : World} {s : St} {H0 N0 : Nat} (h : WOK env A F w s.m H0 N0) {act : Act} (hfr : ∀ t, Rep A (Own A s.m F) w (act.tmps.getD t undef) (s.get t)) {xs : List Operand} {as : List AVal} (he : evals env s xs = some as) : RepL A (Own A s.m F) w (xs.map act.eval) as := by
  obtain ⟨h1, h2⟩ := mapM_get he
  refine ⟨by simp [h1], fun j x hx => ?_⟩
  have hj : j < xs.length := by rw [← h1]; exact (List.getElem?_eq_some_iff.1 hx).1
  obtain ⟨y, hy, hf⟩ := h2 j xs[j] (List.getElem?_eq_getElem hj)
  rw [hx] at hy; cases hy
  simpa [List.getD_eq_getElem?_getD, hj] using eval_spec h hfr hf

/-- Parts, each with its place. -/
def RepP (A : Gh) (X : Nat → Prop) (w : World) : List (Nat × Value) → List (Nat × AVal) → Prop
  | [], [] => True
  | (i, v) :: vs, (j, a) :: as => i = j ∧ Rep A X w v a ∧ RepP A X w vs as
  | _, _ => False
theorem parts_spec {env : Env} {A : Gh} {F : Nat → Prop} {w : World} {s : St} {H0 N0 : Nat} (h : WOK env A F w s.m H0 N0) {act : Act} (hfr : ∀ t, Rep A (Own A s.m F) w (act.tmps.getD t undef) (s.get t)) : ∀ {xs : List (Nat × Operand)} {as : List (Nat × AVal)}, evalParts env s xs = some as → RepP A (Own A s.m F) w (xs.map fun (i, x) => (i, act.eval x)) as
  | [], as, he => by simp [evalParts] at he; subst he; trivial
  | (i, x) :: xs, as, he => by
    simp only [evalParts, List.mapM_cons] at he
    cases ha : aEval env s x with
    | none => simp [ha] at he
    | some b =>
      cases hl : xs.mapM (fun (x : Nat × Operand) => (aEval env s x.2).map fun a => (x.1, a)) with
      | none => simp [ha, hl] at he
      | some bs =>
        simp [ha, hl] at he
        subst he
        exact ⟨rfl, eval_spec h hfr ha, parts_spec h hfr (xs := xs) hl⟩
theorem RepP.ext {base : Nat} {F : Nat → Prop} {A A' : Gh} {m m' : Mem} {w w' : World} (k : Ext base F A m w A' m' w') : ∀ {vs : List (Nat × Value)} {as : List (Nat × AVal)}, RepP A (Own A m F) w vs as → RepP A' (Own A' m' F) w' vs as
  | [], [], _ => trivial
  | (_, _) :: _, (_, _) :: _, h => ⟨h.1, h.2.1.ext k, h.2.2.ext k⟩
  | [], _ :: _, h => h
  | _ :: _, [], h => h

theorem foldl_set (off : Nat) : ∀ (vs : List Value) (k : Nat) (cells : Array Value), off + k + vs.length ≤ cells.size →
    ((vs.zipIdx k).foldl (fun (cs : Array Value) (x : Value × Nat) => cs.setIfInBounds (off + x.2) x.1) cells).toList = cells.toList.take (off + k) ++ vs ++ cells.toList.drop (off + k + vs.length)
  | [], k, cells, h => by simp
  | v :: vs, k, cells, h => by
    simp only [List.length_cons] at h
    rw [List.zipIdx_cons, List.foldl_cons, foldl_set off vs (k + 1) _ (by simp; omega)]
    have hlt : off + k < cells.toList.length := by simp; omega
    have e1 : (cells.setIfInBounds (off + k) v).toList = cells.toList.set (off + k) v := by simp
    rw [e1]
    have e2 : (cells.toList.set (off + k) v).take (off + (k + 1)) = cells.toList.take (off + k) ++ [v] := by
      rw [← Nat.add_assoc, List.take_succ_eq_append_getElem (by simpa using hlt)]
      simp [List.take_set_of_le]
    have e3 : (cells.toList.set (off + k) v).drop (off + (k + 1) + vs.length) = cells.toList.drop (off + k + (v :: vs).length) := by
      rw [List.drop_set_of_lt (by omega)]
      congr 1
      simp; omega
    rw [e2, e3]
    simp
theorem fill_step (place : Nat → Option (Nat × Nat)) (cells : Array Value) (i : Nat) (v : Value) (rest : List (Nat × Value)) (off size : Nat) (hp : place i = some (off, size)) (hs : v.cells.size = size) (hle : off + size ≤ cells.size) :
    Instr.fill place cells ((i, v) :: rest) = Instr.fill place (cells.toList.take off ++ v.cells.toList ++ cells.toList.drop (off + size)).toArray rest := by
  have hfold := foldl_set off v.cells.toList 0 cells (by simp; omega)
  have e : v.cells.zipIdx.foldl (fun cs (x : Value × Nat) => cs.setIfInBounds (off + x.2) x.1) cells = (cells.toList.take off ++ v.cells.toList ++ cells.toList.drop (off + size)).toArray := by
    apply Array.ext'
    rw [← Array.foldl_toList, Array.toList_zipIdx]
    simpa [hs] using hfold
  simp only [Instr.fill, hp]
  rw [if_neg (by simp; omega), ← e]
theorem fill_spec {A : Gh} {X : Nat → Prop} {w : World} {place place' : Nat → Option (Nat × Nat)} (hp : ∀ i x, place i = some x → place' i = some x) : ∀ {vs : List (Nat × Value)} {as : List (Nat × AVal)} {cells : Array Value} {cs cs' : List AVal}, RepP A X w vs as → RepL A X w cells.toList cs → aFill place cs as = some cs' →
    ∃ cells', Instr.fill place' cells vs = some cells' ∧ RepL A X w cells'.toList cs'
  | [], [], cells, cs, cs', _, hr, hf => by simp [aFill] at hf; subst hf; exact ⟨cells, rfl, hr⟩
  | (i, v) :: vs, (j, a) :: as, cells, cs, cs', h, hr, hf => by
    obtain ⟨rfl, hva, ht⟩ := h
    simp only [aFill] at hf
    split at hf
    · cases hf
    · rename_i off size hpl
      split at hf
      · rename_i hc
        simp only [Bool.and_eq_true, decide_eq_true_eq] at hc
        obtain ⟨cs1, hs, hf⟩ := Option.bind_eq_some_iff.1 hf
        obtain ⟨hvc, _⟩ := hva.cells hc.2
        have hsp := splice_spec hs
        have hvl := hvc.1
        have hcl := hr.1
        have hsz : v.cells.size = size := by simp at hvl; omega
        have hr' := hr.splice hvc hs
        have hvs : v.cells.toList.length = size := by simpa using hsz
        rw [hvs] at hr'
        obtain ⟨cells', hf', hr2⟩ := fill_spec hp ht (cells := (cells.toList.take off ++ v.cells.toList ++ cells.toList.drop (off + size)).toArray) (by simpa using hr') hf
        exact ⟨cells', by rw [fill_step place' cells i v vs off size (hp _ _ hpl) hsz (by simp at hcl; omega)]; exact hf', hr2⟩
      · cases hf
  | [], _ :: _, _, _, _, h, _, _ => h.elim
  | _ :: _, [], _, _, _, h, _, _ => h.elim

theorem fill_all (sz : Nat) : ∀ (vs : List (Nat × Value)) (k : Nat) (cells : Array Value), (∀ j x, vs[j]? = some x → x.1 = k + j ∧ x.2.cells.size = sz) → cells.size = (k + vs.length) * sz →
    Instr.fill (fun i => some (i * sz, sz)) cells vs = some (cells.toList.take (k * sz) ++ (vs.map fun x => x.2.cells.toList).flatten).toArray
  | [], k, cells, h, hs => by
    simp only [Instr.fill, List.map_nil, List.flatten_nil, List.append_nil]
    rw [List.take_of_length_le (by simp at hs ⊢; omega)]
  | (i, v) :: vs, k, cells, h, hs => by
    obtain ⟨h1, h2⟩ := h 0 (i, v) rfl
    simp only [Nat.add_zero] at h1
    subst h1
    have hvl : v.cells.toList.length = sz := by simpa using h2
    have hle : i * sz + sz ≤ cells.size := by
      rw [hs, List.length_cons, Nat.add_mul]
      have : 1 * sz ≤ (vs.length + 1) * sz := Nat.mul_le_mul_right _ (by omega)
      omega
    rw [fill_step _ cells i v vs (i * sz) sz rfl h2 hle]
    rw [fill_all sz vs (i + 1) _ (fun j x hx => by have := h (j + 1) x (by simpa using hx); refine ⟨by omega, this.2⟩) (by
      simp only [List.size_toArray, List.length_append, List.length_take, List.length_drop, Array.length_toList, hvl]
      rw [Nat.min_eq_left (by omega)]
      have : (i + 1 + vs.length) * sz = (i + (vs.length + 1)) * sz := by congr 1; omega
      rw [this]
      simp only [List.length_cons] at hs
      omega)]
    congr 2
    simp only [List.map_cons, List.flatten_cons]
    have e1 : (cells.toList.take (i * sz) ++ v.cells.toList ++ cells.toList.drop (i * sz + sz)).take ((i + 1) * sz) = cells.toList.take (i * sz) ++ v.cells.toList := by
      rw [Nat.add_mul, Nat.one_mul]
      have : i * sz + sz = (cells.toList.take (i * sz) ++ v.cells.toList).length := by simp [h2]; omega
      rw [this, List.take_left]
    rw [e1, List.append_assoc]

theorem frz_isCell {base : Nat} {m : Mem} {a a' : AVal} {m1 : Option Mem} (h : frz base m a = some (a', m1)) : a.isCell = true := by
  cases a <;> first | rfl | (simp [frz, AVal.fixed] at h; done) | (simp only [frz] at h; split at h <;> first | (rename_i hf; exact fixed_isCell hf) | cases h)
theorem frzL_isCell {base : Nat} : ∀ {cs : List AVal} {m : Mem} {cs' : List AVal} {m1 : Option Mem}, frzL base m cs = some (cs', m1) → cs.all AVal.isCell = true
  | [], m, cs', m1, h => rfl
  | a :: l, m, cs', m1, h => by
    simp only [frzL] at h
    split at h
    · cases h
    · rename_i hf
      split at h
      · cases h
      · rename_i hl
        rw [List.all_cons, frz_isCell hf, frzL_isCell hl]; rfl
theorem write_isCell {base : Nat} {m m' : Mem} {o : OId} {g i off : Nat} {new : List AVal} (h : m.write base o g i off new = some m') : new.all AVal.isCell = true := by
  unfold Mem.write at h
  simp only at h
  split at h
  · split at h
    · obtain ⟨⟨n', m1⟩, hf, _⟩ := Option.bind_eq_some_iff.1 h
      exact frzL_isCell hf
    · split at h
      · split at h
        · split at h
          · assumption
          · cases h
        · split at h
          · rename_i hs; exact all_imp (fun _ => shared_isCell) hs
          · cases h
      · cases h
    · cases h
  · cases h

theorem elemsB_spec {env : Env} {A : Gh} {F : Nat → Prop} {w : World} {H0 N0 : Nat} (base sz : Nat) : ∀ (vs : List (Nat × Value)) (as : List (Nat × AVal)) (k : Nat) (m : Mem) (es : List (List AVal)) (m1 : Option Mem), WOK env A F w m H0 N0 → RepP A (Own A m F) w vs as → aElems base sz m k as = some (es, m1) →
    WOK env A F w (m1.getD m) H0 N0 ∧ Ext base F A m w A (m1.getD m) w ∧ RepL A (Own A (m1.getD m) F) w (vs.map fun x => x.2.cells.toList).flatten es.flatten ∧ (∀ e ∈ es, e.length = sz) ∧ (∀ x ∈ es.flatten, x.fixed = true) ∧ (∀ (j : Nat) (x : Nat × Value), vs[j]? = some x → x.1 = k + j ∧ x.2.cells.size = sz) ∧ es.length = vs.length
  | [], [], k, m, es, m1, h, hr, hf => by
    simp only [aElems, Option.some.injEq, Prod.mk.injEq] at hf
    obtain ⟨rfl, rfl⟩ := hf
    exact ⟨h, .refl .., .nil, by simp, by simp, by simp, rfl⟩
  | (i, v) :: vs, (j, a) :: as, k, m, es, m1, h, hr, hf => by
    obtain ⟨rfl, hva, ht⟩ := hr
    simp only [aElems] at hf
    split at hf
    · rename_i hcond
      simp only [Bool.and_eq_true, decide_eq_true_eq] at hcond
      obtain ⟨rfl, hl⟩ := hcond
      split at hf
      · cases hf
      · rename_i cs m2 hfz
        split at hf
        · cases hf
        · rename_i es' m3 hrec
          simp only [Option.some.injEq, Prod.mk.injEq] at hf
          obtain ⟨rfl, rfl⟩ := hf
          rw [orM_getD]
          obtain ⟨hvc, _⟩ := hva.cells (frzL_isCell hfz)
          have hcl : cs.length = a.cells.length := by
            have : ∀ (l : List AVal) (m : Mem) (l' : List AVal) (m' : Option Mem), frzL base m l = some (l', m') → l'.length = l.length := by
              intro l
              induction l with
              | nil => intro m l' m' h; simp only [frzL, Option.some.injEq, Prod.mk.injEq] at h; rw [← h.1]
              | cons x l ih =>
                intro m l' m' h
                simp only [frzL] at h
                split at h
                · cases h
                · split at h
                  · cases h
                  · rename_i hh
                    simp only [Option.some.injEq, Prod.mk.injEq] at h
                    rw [← h.1]; simp [ih _ _ _ hh]
            exact this _ _ _ _ hfz
          obtain ⟨h1, h2, h3, h4⟩ := frzL_spec base v.cells.toList a.cells cs m m2 h hvc hfz
          obtain ⟨k1, k2, k3, k4, k5, k6, k7⟩ := elemsB_spec base sz vs as (i + 1) _ es' m3 h1 (ht.ext h2) hrec
          refine ⟨k1, h2.trans k2, ?_, ?_, ?_, ?_, by simp [k7]⟩
          · simp only [List.map_cons, List.flatten_cons]
            exact (h3.ext k2).append k3
          · intro e he
            rcases List.mem_cons.1 he with rfl | he
            · omega
            · exact k4 e he
          · intro x hx
            rw [List.flatten_cons] at hx
            rcases List.mem_append.1 hx with hx | hx
            · exact List.all_eq_true.1 h4 x hx
            · exact k5 x hx
          · intro q x hx
            cases q with
            | zero =>
              simp at hx; subst hx
              have := hvc.1
              simp at this
              exact ⟨rfl, by simp; omega⟩
            | succ q =>
              simp at hx
              have := k6 q x hx
              refine ⟨by omega, this.2⟩
    · cases hf
  | [], _ :: _, _, _, _, _, _, h, _ => h.elim
  | _ :: _, [], _, _, _, _, _, h, _ => h.elim
end Go.Abs
