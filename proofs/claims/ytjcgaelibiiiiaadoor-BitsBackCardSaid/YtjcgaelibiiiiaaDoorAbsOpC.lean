/-
  THE ABSTRACT INTERPRETER: append. By this seat's session.
-/
import Derived.Test.YtjcgaelibiiiiaaDoorAbsOpB
set_option linter.unusedVariables false
set_option linter.unusedSimpArgs false
namespace Go.Abs

theorem flatten_get {α : Type} {sz : Nat} (h0 : 0 < sz) : ∀ (es : List (List α)) (q : Nat), (∀ e ∈ es, e.length = sz) → es.flatten[q]? = (es[q / sz]?).bind fun e => e[q % sz]?
  | [], q, _ => by simp
  | e :: es, q, h => by
    have he := h e (by simp)
    rw [List.flatten_cons]
    by_cases hq : q < sz
    · rw [List.getElem?_append_left (by omega), Nat.div_eq_of_lt hq, Nat.mod_eq_of_lt hq]; rfl
    · rw [List.getElem?_append_right (by omega), he, flatten_get h0 es (q - sz) (fun x hx => h x (by simp [hx]))]
      have e1 : q / sz = (q - sz) / sz + 1 := by
        rw [← Nat.add_div_right _ h0]; congr 1; omega
      have e2 : q % sz = (q - sz) % sz := by rw [← Nat.mod_eq_sub_mod (by omega)]
      rw [e1, e2, List.getElem?_cons_succ]
theorem flatten_len {α : Type} {sz : Nat} : ∀ (es : List (List α)), (∀ e ∈ es, e.length = sz) → es.flatten.length = es.length * sz
  | [], _ => by simp
  | e :: es, h => by rw [List.flatten_cons, List.length_append, flatten_len es (fun x hx => h x (by simp [hx])), h e (by simp), List.length_cons, Nat.add_mul]; omega
theorem RowRep.flat {A : Gh} {X : Nat → Prop} {w : World} {arr : Array Value} {sz : Nat} {es : List (List AVal)} (h : RowRep A X w arr sz es) {q : Nat} {x : AVal} (hx : es.flatten[q]? = some x) : x.fixed = true ∧ ∃ u, arr[q]? = some u ∧ Rep A X w u x := by
  rw [flatten_get h.1 es q h.2.2.1] at hx
  obtain ⟨e, he, hx⟩ := Option.bind_eq_some_iff.1 hx
  have := h.2.2.2 _ e _ x he hx
  rwa [Nat.mul_comm, Nat.div_add_mod] at this
theorem RowRep.ofFlat {A : Gh} {X : Nat → Prop} {w : World} {arr : Array Value} {sz : Nat} {es : List (List AVal)} (h0 : 0 < sz) (hl : ∀ e ∈ es, e.length = sz) (hs : es.length * sz ≤ arr.size) (h : ∀ (q : Nat) (x : AVal), es.flatten[q]? = some x → x.fixed = true ∧ ∃ u, arr[q]? = some u ∧ Rep A X w u x) : RowRep A X w arr sz es := by
  refine ⟨h0, hs, hl, fun i e j x he hx => h _ x ?_⟩
  have hj : j < sz := by rw [← hl e (List.mem_of_getElem? he)]; exact (List.getElem?_eq_some_iff.1 hx).1
  rw [flatten_get h0 es _ hl]
  have e1 : (i * sz + j) / sz = i := by rw [Nat.mul_comm, Nat.mul_add_div h0, Nat.div_eq_of_lt hj]; omega
  have e2 : (i * sz + j) % sz = j := by rw [Nat.mul_comm, Nat.mul_add_mod, Nat.mod_eq_of_lt hj]
  rw [e1, e2, he]; exact hx

/-- The elements of a slice that is read. -/
theorem elems_spec {env : Env} {A : Gh} {F : Nat → Prop} {w : World} {m : Mem} {H0 N0 : Nat} (h : WOK env A F w m H0 N0) {v : Value} {b : AVal} (hr : Rep A (Own A m F) w v b) {ys : List (List AVal)} (he : m.elems b = some ys) {sz : Nat} (h0 : 0 < sz) (hl : ∀ e ∈ ys, e.length = sz) :
    ∃ ad c us, v = .slice ad ys.length c ∧ us.length = ys.length * sz ∧ RepL A (Own A m F) w us ys.flatten ∧ (∀ a, ad = some a → CellsAt w a us) ∧ (ys ≠ [] → ∃ a, ad = some a) := by
  have part : ∀ (o : OId) (g lo n c b s tot : Nat) (arr : Array Value) (t : TypeId) (fr : Nat × Nat) (es : List (List AVal)), w.heap[b]? = some (.cells arr t fr) → RowRep A (Own A m F) w arr s es → lo + n ≤ es.length → ys = (es.drop lo).take n →
      ∃ ad c' us, Value.slice (some ⟨b, lo * s, none⟩) n c = .slice ad ys.length c' ∧ us.length = ys.length * sz ∧ RepL A (Own A m F) w us ys.flatten ∧ (∀ a, ad = some a → CellsAt w a us) ∧ (ys ≠ [] → ∃ a, ad = some a) := by
    intro o g lo n c b s tot arr t fr es hb hrow hle hys
    have hlen : ys.length = n := by rw [hys]; simp; omega
    by_cases hnil : ys = []
    · subst hnil
      refine ⟨_, c, [], by rw [hlen], by simp, .nil, ?_, fun k => absurd rfl k⟩
      intro a _ j u hu; simp at hu
    · have hszs : s = sz := by
        obtain ⟨e, rest, hc⟩ : ∃ e rest, ys = e :: rest := by cases ys with | nil => exact absurd rfl hnil | cons e r => exact ⟨e, r, rfl⟩
        have hmem : e ∈ ys := by rw [hc]; simp
        have h1 := hl e hmem
        rw [hys] at hmem
        have h2 := hrow.2.2.1 e (List.mem_of_mem_drop (List.mem_of_mem_take hmem))
        omega
      subst hszs
      have hq : ∀ q x, ys.flatten[q]? = some x → ∃ u, arr[lo * s + q]? = some u ∧ Rep A (Own A m F) w u x := by
        intro q x hx
        rw [flatten_get h0 ys q hl] at hx
        obtain ⟨e, he1, hx⟩ := Option.bind_eq_some_iff.1 hx
        rw [hys, List.getElem?_take] at he1
        split at he1
        · rw [List.getElem?_drop] at he1
          obtain ⟨_, u, hu, hrep⟩ := hrow.2.2.2 _ e _ x he1 hx
          refine ⟨u, ?_, hrep⟩
          rw [← hu]; congr 1
          rw [Nat.add_mul, Nat.add_assoc]; congr 1
          rw [Nat.mul_comm, Nat.div_add_mod]
        · cases he1
      refine ⟨_, c, (List.range ys.flatten.length).map fun q => arr.getD (lo * s + q) undef, by rw [hlen], by simp [flatten_len ys hl], RepL.list _ (fun j x hx => ?_), fun a e => ?_, fun _ => ⟨_, rfl⟩⟩
      · obtain ⟨u, hu, hrep⟩ := hq j x hx
        simpa [hu] using hrep
      · cases e
        intro j u hu
        simp only [List.getElem?_map, Option.map_eq_some_iff] at hu
        obtain ⟨j', hj', rfl⟩ := hu
        obtain ⟨h1, h2⟩ := List.getElem?_eq_some_iff.1 hj'
        simp at h1 h2
        subst h2
        obtain ⟨u, hu, _⟩ := hq j _ (List.getElem?_eq_getElem (by simpa using h1))
        rw [add_cells, cell_of_row w b _ arr t fr hb, hu]
        simp [hu]
  unfold Mem.elems at he
  split at he
  · cases he
    cases hr with
    | e0 a => exact ⟨a, 0, [], rfl, by simp, .nil, (by intro a _ j u hu; simp at hu), fun k => absurd rfl k⟩
  · cases he
    cases hr with
    | nil a c => exact ⟨a, c, [], rfl, by simp, .nil, (by intro a _ j u hu; simp at hu), fun k => absurd rfl k⟩
    | sl ad n c sz' _ f h0' hn hc hl' hm hrr =>
      have hne : ys ≠ [] ∨ ys = [] := by by_cases hy : ys = [] <;> simp [hy]
      subst hn
      by_cases hy : ys = []
      · subst hy
        exact ⟨_, c, [], rfl, by simp, .nil, (by intro a _ j u hu; simp at hu), fun k => absurd rfl k⟩
      · have hszs : sz' = sz := by
          obtain ⟨e, rest, hc⟩ : ∃ e rest, ys = e :: rest := by cases ys with | nil => exact absurd rfl hy | cons e r => exact ⟨e, r, rfl⟩
          have hmem : e ∈ ys := by rw [hc]; simp
          have := hl e hmem
          have := hl' e hmem
          omega
        subst hszs
        refine ⟨_, c, (List.range ys.flatten.length).map fun q => f (q / sz') (q % sz'), rfl, by simp [flatten_len ys hl], RepL.list _ (fun j x hx => ?_), fun a e => ?_, fun _ => ⟨_, rfl⟩⟩
        · rw [flatten_get h0 ys j hl] at hx
          obtain ⟨e, he1, hx⟩ := Option.bind_eq_some_iff.1 hx
          exact hrr _ e _ x he1 hx
        · cases e
          intro j u hu
          simp only [List.getElem?_map, Option.map_eq_some_iff] at hu
          obtain ⟨j', hj', rfl⟩ := hu
          obtain ⟨h1, h2⟩ := List.getElem?_eq_some_iff.1 hj'
          simp at h1 h2
          subst h2
          have hx := List.getElem?_eq_getElem (l := ys.flatten) (i := j) (by simpa using h1)
          rw [flatten_get h0 ys j hl] at hx
          obtain ⟨e, he1, hx⟩ := Option.bind_eq_some_iff.1 hx
          have := (hm _ e _ _ he1 hx).2.2
          rwa [Nat.mul_comm, Nat.div_add_mod] at this
  · rename_i o g lo n
    cases hr with
    | hs _ _ _ _ c b sz' tot hA hc ht =>
      have hob := h.obj o
      unfold ObjOK at hob
      simp only at he
      split at he
      · rename_i hg
        split at he
        · rename_i es hst
          rw [hst] at hob
          obtain ⟨b', arr, t, fr, k1, k2, k3, k4⟩ := hob
          rw [hg, hA] at k1
          simp only [Option.some.injEq, Prod.mk.injEq] at k1
          obtain ⟨rfl, rfl, rfl⟩ := k1
          split at he
          · rename_i hle
            cases he
            exact part o g lo n c b _ arr.size arr t fr es k2 k3 hle rfl
          · cases he
        · rename_i es hst
          rw [hst] at hob
          obtain ⟨b', arr, t, k1, k2, k3⟩ := hob
          rw [hg, hA] at k1
          simp only [Option.some.injEq, Prod.mk.injEq] at k1
          obtain ⟨rfl, rfl, rfl⟩ := k1
          split at he
          · rename_i hle
            cases he
            exact part o g lo n c b _ arr.size arr t (0, 0) es k2 k3 hle rfl
          · cases he
        · cases he
      · cases he
  · cases he

theorem run_append_room' {P : Program} (w : World) (t ty e e' : TypeId) (i : TypeInfo) (ht : P.underlying t = some (.slice e)) (hi : P.info? e = some i)
    (g sLen sCap : Nat) (cur : Array Value) (hg : w.heap[g]? = some (.cells cur e' (0, 0)))
    (a : Addr) (m c : Nat) (news : List Value) (hl : news.length = m * i.size) (hnews : ∀ j u, news[j]? = some u → w.cell? (a.add j) = some u) (h1 : ∀ u ∈ news, u.oneCell' = true)
    (hroom : sLen + m ≤ sCap) (hfit : sLen * i.size + news.length ≤ cur.size) :
    (Builtin.append_ #[t, t] ty #[.slice (some ⟨g, 0, none⟩) sLen sCap, .slice (some a) m c]).run P w =
      .ok (.slice (some ⟨g, 0, none⟩) (sLen + m) sCap) (w.setRow g (cur.toList.take (sLen * i.size) ++ news ++ cur.toList.drop (sLen * i.size + news.length)).toArray) := by
  have hf := run_firstCells_some (P := P) w i.size m a m c news hl hnews
  have hst := run_storeCells_at P g (sLen * i.size) e' news 0 cur w hg (by simpa using hfit) h1
  simp only [Nat.add_zero] at hst
  simp [Builtin.append_, run_underlying ht, sizeOf, typeInfo, hi, Builtin.lenOf, hroom, hf, Addr.add_lit, hst]
/-- append of nothing. -/
theorem run_append_none {P : Program} (w : World) (t ty e : TypeId) (i : TypeInfo) (ht : P.underlying t = some (.slice e)) (hi : P.info? e = some i) (a b : Option Addr) (n k c : Nat) (hk : n ≤ k) :
    (Builtin.append_ #[t, t] ty #[.slice a n k, .slice b 0 c]).run P w = .ok (.slice a n k) w := by
  have hf : ∀ w, (Builtin.firstCells i.size 0 (.slice b 0 c)).run P w = .ok #[] w := by
    intro w
    cases b <;> simp [Builtin.firstCells, loadCells, loadCellsFrom]
  cases a <;> simp [Builtin.append_, run_underlying ht, sizeOf, typeInfo, hi, Builtin.lenOf, hk, hf, storeCells]

theorem grown_row {A : Gh} {X : Nat → Prop} {w : World} {es ys : List (List AVal)} {sz : Nat} {olds news zs : List Value} (h0 : 0 < sz) (hle : ∀ e ∈ es, e.length = sz) (hly : ∀ e ∈ ys, e.length = sz)
    (ho : RepL A X w olds es.flatten) (hn : RepL A X w news ys.flatten) (hfe : ∀ x ∈ es.flatten, x.fixed = true) (hfy : ∀ x ∈ ys.flatten, x.fixed = true) : RowRep A X w (olds ++ news ++ zs).toArray sz (es ++ ys) := by
  have hol := ho.1
  have hnl := hn.1
  rw [flatten_len es hle] at hol
  rw [flatten_len ys hly] at hnl
  refine .ofFlat h0 (fun e he => ?_) ?_ ?_
  · rcases List.mem_append.1 he with he | he
    · exact hle e he
    · exact hly e he
  · simp only [List.length_append, List.size_toArray, Nat.add_mul]; omega
  · intro q x hx
    have hap := ho.append hn
    rw [← List.flatten_append] at hap
    have hrep := hap.2 q x hx
    have hq : q < (olds ++ news).length := by rw [hap.1]; exact (List.getElem?_eq_some_iff.1 hx).1
    refine ⟨?_, (olds ++ news)[q], ?_, ?_⟩
    · have hm := List.mem_of_getElem? hx
      rw [List.flatten_append] at hm
      rcases List.mem_append.1 hm with hm | hm
      · exact hfe x hm
      · exact hfy x hm
    · rw [List.getElem?_toArray, List.getElem?_append_left hq, List.getElem?_eq_getElem hq]
    · simpa [List.getD_eq_getElem?_getD, List.getElem?_eq_getElem hq] using hrep
theorem RowRep.olds {A : Gh} {X : Nat → Prop} {w : World} {arr : Array Value} {sz : Nat} {es : List (List AVal)} (h : RowRep A X w arr sz es) : RepL A X w (arr.toList.take (es.length * sz)) es.flatten ∧ (∀ x ∈ es.flatten, x.fixed = true) := by
  have hfl := flatten_len es h.2.2.1
  refine ⟨⟨by rw [hfl]; exact (List.length_take_of_le (by simpa using h.2.1)), fun q x hx => ?_⟩, fun x hx => ?_⟩
  · obtain ⟨_, u, hu, hr⟩ := h.flat hx
    have hq : q < es.flatten.length := (List.getElem?_eq_some_iff.1 hx).1
    have hqq : q < es.length * sz := by omega
    simpa [List.getD_eq_getElem?_getD, List.getElem?_take, hqq, hu] using hr
  · obtain ⟨q, hq, rfl⟩ := List.getElem_of_mem hx
    exact (h.flat (List.getElem?_eq_getElem hq)).1

theorem append_spec {P : Program} {env : Env} (hE : EnvOK P env) {A : Gh} {F : Nat → Prop} {w : World} {m : Mem} {H0 N0 : Nat} (h : WOK env A F w m H0 N0) (base : Nat) (hbase : base ≤ m.gs.n) {glob pureA : Bool} {key : Nat} {t ty e : TypeId} (ht : P.underlying t = some (.slice e)) {a b r : AVal} {m1 : Option Mem}
    (hap : aAppend env base glob pureA key m e a b = some (r, m1)) {va vb : Value} (hra : Rep A (Own A m F) w va a) (hrb : Rep A (Own A m F) w vb b) :
    ∃ v w' A', (Builtin.append_ #[t, t] ty #[va, vb]).run P w = .ok v w' ∧ WOK env A' F w' (m1.getD m) H0 N0 ∧ Ext base F A m w A' (m1.getD m) w' ∧ Rep A' (Own A' (m1.getD m) F) w' v r := by
  unfold aAppend at hap
  obtain ⟨sz, hsz, hap1⟩ := Option.bind_eq_some_iff.1 hap
  clear hap
  obtain ⟨by_, hby, hap2⟩ := Option.bind_eq_some_iff.1 hap1
  clear hap1
  obtain ⟨z, hz, hap3⟩ := Option.bind_eq_some_iff.1 hap2
  clear hap2
  obtain ⟨ys, hys, hap⟩ := Option.bind_eq_some_iff.1 hap3
  clear hap3
  split at hap
  · cases hap
  rename_i hchk
  simp only [Bool.or_eq_true, decide_eq_true_eq, Bool.not_eq_true', bne_iff_ne, not_or, Decidable.not_not, Bool.not_eq_false] at hchk
  obtain ⟨⟨⟨hs0, hb0⟩, hall⟩, hzl⟩ := hchk
  have h0 : 0 < sz := by omega
  have hly : ∀ x ∈ ys, x.length = sz := fun x hx => by have := List.all_eq_true.1 hall x hx; simp at this; exact this.1
  have hfy : ∀ x ∈ ys.flatten, x.fixed = true := fun x hx => by
    obtain ⟨l, hl, hx⟩ := List.mem_flatten.1 hx
    have := List.all_eq_true.1 hall l hl
    simp at this
    exact this.2 x hx
  obtain ⟨i, hi, hisz⟩ := hE.size _ _ hsz
  obtain ⟨i', hi', hiby⟩ := hE.bytes _ _ hby
  obtain ⟨i'', zv, hi'', hzv, hzr, hzo⟩ := hE.zero _ _ hz
  rw [hi] at hi' hi''
  cases hi'; cases hi''
  obtain ⟨adb, cb, news, rfl, hnl, hnr, hnc, hnsome⟩ := elems_spec h hrb hys h0 hly
  have hn1 : ∀ u ∈ news, u.oneCell' = true := hnr.one (List.all_eq_true.2 fun x hx => fixed_isCell (hfy x hx))
  -- the world behind a growth
  have grow : ∀ (es : List (List AVal)) (olds : List Value) (old : Nat), (∀ x ∈ es, x.length = sz) → RepL A (Own A m F) w olds es.flatten → (∀ x ∈ es.flatten, x.fixed = true) →
      RowRep A (Own A m F) w (olds.toArray ++ news.toArray ++ Builtin.zeroCells zv.cells (grownCap w (es.length + ys.length) old e - (es.length + ys.length))) sz (es ++ ys) ∧
      (es.length + ys.length ≤ grownCap w (es.length + ys.length) old e) ∧
      (olds.toArray ++ news.toArray ++ Builtin.zeroCells zv.cells (grownCap w (es.length + ys.length) old e - (es.length + ys.length))).size = grownCap w (es.length + ys.length) old e * sz := by
    intro es olds old hle ho hfe
    have hge := grownCap_ge w (es.length + ys.length) old e
    have hzs : zv.cells.size = sz := by have := (hzr A (Own A m F) w).1; simp at this; omega
    have hol : olds.length = es.length * sz := by rw [ho.1, flatten_len es hle]
    refine ⟨?_, hge, ?_⟩
    · have := grown_row (zs := (Builtin.zeroCells zv.cells (grownCap w (es.length + ys.length) old e - (es.length + ys.length))).toList) h0 hle hly ho hnr hfe hfy
      have e1 : (olds ++ news ++ (Builtin.zeroCells zv.cells (grownCap w (es.length + ys.length) old e - (es.length + ys.length))).toList).toArray = olds.toArray ++ news.toArray ++ Builtin.zeroCells zv.cells (grownCap w (es.length + ys.length) old e - (es.length + ys.length)) := by apply Array.ext'; simp
      rwa [e1] at this
    · simp only [Array.size_append, List.size_toArray, size_zeroCells, hzs, hol, hnl, ← Nat.add_mul]
      congr 1; omega
  cases a with
  | e0 =>
    dsimp only at hap
    cases hra with
    | e0 ada =>
    split at hap
    · rename_i hemp
      cases hap
      have : ys = [] := by simpa using hemp
      subst this
      refine ⟨.slice ada 0 0, w, A, ?_, h, .refl .., by split <;> first | exact .nil ada 0 | exact .e0 ada⟩
      exact run_append_none w t ty e i ht hi ada adb 0 0 cb (Nat.le_refl _)
    · rename_i hne
      have hne' : ys ≠ [] := by simpa using hne
      split at hap
      · rename_i hbytes
        obtain ⟨ad, rfl⟩ := hnsome hne'
        have hlen : 0 < ys.length := List.length_pos_iff.2 hne'
        obtain ⟨hrow, hge, harr⟩ := grow [] [] 0 (by simp) .nil (by simp)
        simp only [List.length_nil, Nat.zero_add, List.nil_append] at hrow hge harr
        have hbytes' : ys.length * i.bytes ≤ 140737488355328 := by rw [hiby]; exact of_decide_eq_true hbytes
        have h63 : ys.length ≤ 140737488355328 := Nat.le_trans (Nat.le_mul_of_pos_right _ (by omega)) hbytes'
        have hrun : (Builtin.append_ #[t, t] ty #[.slice ada 0 0, .slice (some ad) ys.length cb]).run P w = .ok (.slice (some ⟨w.heap.size, 0, none⟩) ys.length (grownCap w ys.length 0 e))
            (w.drew.alloc (.cells (([] : List Value).toArray ++ news.toArray ++ Builtin.zeroCells zv.cells (grownCap w ys.length 0 e - ys.length)) e)) := by
          cases ada with
          | none =>
            have := run_append_nil (P := P) w t ty e i zv ht hi hzv ad ys.length cb news (by rw [hisz]; exact hnl) (hnc _ rfl) hlen (by omega) (by omega)
            simpa using this
          | some a0 =>
            have := run_append_grow (P := P) w t ty e i zv ht hi hzv a0 0 0 [] (by simp) (by intro j v hv; simp at hv) ad ys.length cb news (by rw [hisz]; exact hnl) (hnc _ rfl) (by omega) (by omega) (by rw [Nat.zero_add]; exact growslice_fits (by omega) hbytes')
            simpa using this
        split at hap
        · -- a value that is only read
          cases hap
          have hw' : ∀ b, b < w.heap.size → (w.drew.alloc (.cells (([] : List Value).toArray ++ news.toArray ++ Builtin.zeroCells zv.cells (grownCap w ys.length 0 e - ys.length)) e)).heap[b]? = w.heap[b]? := fun b hb => heap_alloc_old w.drew _ b hb
          have hext : Ext base F A m w A m (w.drew.alloc (.cells (([] : List Value).toArray ++ news.toArray ++ Builtin.zeroCells zv.cells (grownCap w ys.length 0 e - ys.length)) e)) :=
            { le := .refl _, size := by simp, os := rfl, tape := rfl, output := rfl, heap := fun b hb _ => hw' b hb, own := fun _ _ h => h, wr := fun _ _ h => h, keep := fun _ b s t h1 h2 _ => ⟨s, t, h1, h2⟩, keepG := fun _ _ => rfl, nle := Nat.le_refl _ }
          have hown_lt : ∀ b, Own A m F b → b < w.heap.size := by
            rintro b (hF | ⟨o, s, t', h1, h2⟩)
            · exact h.bound b hF
            · exact A_lt h (owned_live h1) h2
          refine ⟨_, _, A, hrun, ?_, hext, ?_⟩
          · have hX : ∀ b, b < w.heap.size → ¬ Own A m F b → _ := fun b hb _ => hw' b hb
            refine { obj := fun o => ?_, inj := h.inj, sep := h.sep, bound := fun b hb => Nat.lt_of_lt_of_le (h.bound b hb) hext.size, gens := h.gens, gn := h.gn, fresh := h.fresh, nle := h.nle, hle := Nat.le_trans h.hle hext.size, glob := fun gl cs hg => (h.glob gl cs hg).ext hext }
            have hob := h.obj o
            unfold ObjOK at hob ⊢
            simp only [Option.getD_none]
            cases hs : (m.obj o).st with
            | dead => trivial
            | ro s es =>
              rw [hs] at hob
              obtain ⟨b, a', t', fr, h1, h2, h3, h4⟩ := hob
              exact ⟨b, a', t', fr, h1, by rw [hw' b (Array.getElem?_eq_some_iff.1 h2).1]; exact h2, h3.mono (.refl _) hX (fun _ _ h => h), h4⟩
            | row s es =>
              rw [hs] at hob
              obtain ⟨b, a', t', h1, h2, h3⟩ := hob
              exact ⟨b, a', t', h1, by rw [hw' b (Array.getElem?_eq_some_iff.1 h2).1]; exact h2, h3.mono (.refl _) hX (fun _ _ h => h)⟩
            | box cs =>
              rw [hs] at hob
              obtain ⟨b, a', t', h1, h2, h3, h4⟩ := hob
              exact ⟨b, a', t', h1, by rw [hw' b (Array.getElem?_eq_some_iff.1 h2).1]; exact h2, h3.ext hext, h4⟩
          · have hr' := hrow.mono (.refl A) (fun b hb _ => hw' b hb) (fun b hb h => h) (X' := Own A m F)
            have := hr'.slice (lo := 0) (n := ys.length) (c := grownCap w ys.length 0 e) (heap_alloc_new w.drew _) (fun hx => by have := hown_lt _ hx; simp at this) (by omega) hge
            simpa using this
        · -- a row of one's own
          generalize hno : newObj glob key m (.row sz ys) = no at hap
          obtain ⟨o, g, m'⟩ := no
          simp only at hap
          cases hap
          obtain ⟨A', hA', hW, hX⟩ := h.new base hno hbase (([] : List Value).toArray ++ news.toArray ++ Builtin.zeroCells zv.cells (grownCap w ys.length 0 e - ys.length)) e w.drew rfl ⟨rfl, rfl, rfl⟩ sz rfl ⟨rfl, hrow⟩
          refine ⟨_, _, A', hrun, hW, hX, ?_⟩
          have := Rep.hs (A := A') (X := Own A' m' F) (w := w.drew.alloc (.cells (([] : List Value).toArray ++ news.toArray ++ Builtin.zeroCells zv.cells (grownCap w ys.length 0 e - ys.length)) e)) o g 0 ys.length (grownCap w ys.length 0 e) w.heap.size sz _ hA' hge (by rw [harr, Nat.zero_add]; exact Nat.le_refl _)
          simpa using this
      · cases hap
  | hs o g lo n =>
    dsimp only at hap
    split at hap
    · rename_i hcond
      simp only [Bool.and_eq_true, decide_eq_true_eq, beq_iff_eq] at hcond
      obtain ⟨⟨hg, hmw⟩, rfl⟩ := hcond
      split at hap
      · rename_i sz' es hst
        split at hap
        · rename_i hc2
          simp only [Bool.and_eq_true, decide_eq_true_eq] at hc2
          obtain ⟨⟨rfl, hen⟩, hbytes⟩ := hc2
          cases hap
          cases hra with
          | hs _ _ _ _ c b s tot hA hc htot =>
          have hob := h.obj o
          unfold ObjOK at hob
          rw [hst] at hob
          obtain ⟨b', arr, ty', k1, k2, k3⟩ := hob
          rw [hg, hA] at k1
          simp only [Option.some.injEq, Prod.mk.injEq] at k1
          obtain ⟨rfl, rfl, rfl⟩ := k1
          subst hen
          rw [Nat.zero_add] at htot
          have hbytes' : (es.length + ys.length) * i.bytes ≤ 140737488355328 := by rw [hiby]; exact hbytes
          have h63 : es.length + ys.length ≤ 140737488355328 := Nat.le_trans (Nat.le_mul_of_pos_right _ (by omega)) hbytes'
          obtain ⟨hor, hof⟩ := k3.olds
          have hfl := flatten_len es k3.2.2.1
          simp only [Nat.zero_mul]
          -- what becomes of the object
          have turn : ∀ (b2 : Nat) (arr2 : Array Value) (ty2 : TypeId) (w2 : World), w.heap.size ≤ w2.heap.size → (w2.os = w.os ∧ w2.tape = w.tape ∧ w2.output = w.output) → (∀ b1, b1 < w.heap.size → b1 ≠ b → w2.heap[b1]? = w.heap[b1]?) →
              (b2 = b ∨ w.heap.size ≤ b2) → w2.heap[b2]? = some (.cells arr2 ty2 (0, 0)) → RowRep A (Own A m F) w arr2 s (es ++ ys) →
              WOK env (A.upd o (g + 1) (b2, s, arr2.size)) F w2 (m.put o ⟨g + 1, .row s (es ++ ys)⟩) H0 N0 ∧ Ext base F A m w (A.upd o (g + 1) (b2, s, arr2.size)) (m.put o ⟨g + 1, .row s (es ++ ys)⟩) w2 := by
            intro b2 arr2 ty2 w2 q1 q2 q3 q4 q5 q6
            refine h.change base o (by rw [hst]; rfl) hmw _ ⟨g + 1, .row s (es ++ ys)⟩ w2 (.inr ⟨_, rfl, by rw [hg]; exact Nat.lt_succ_self _⟩) q1 q2
              (fun b1 hb1 hne => q3 b1 hb1 (fun e1 => hne s arr.size (by rw [hg, e1]; exact hA))) (fun _ b1 s1 t1 hA1 => ?_) (fun hext => ?_)
            · rw [Gh.upd_self] at hA1
              simp only [Option.some.injEq, Prod.mk.injEq] at hA1
              obtain ⟨rfl, rfl, rfl⟩ := hA1
              rcases q4 with rfl | q4
              · exact .inl ⟨s, arr.size, by rw [hg]; exact hA⟩
              · exact .inr q4
            · unfold ObjOK
              exact ⟨b2, arr2, ty2, Gh.upd_self .., q5, q6.mono hext.le (fun b1 hb1 hx => hext.heap b1 hb1 (fun e1 => hx e1.own)) hext.own⟩
          by_cases hys0 : ys = []
          · -- nothing is appended
            subst hys0
            have hrun := run_append_none (P := P) w t ty e i ht hi (some ⟨b, 0, none⟩) adb es.length c cb hc
            obtain ⟨hW, hX⟩ := turn b arr ty' w (Nat.le_refl _) ⟨rfl, rfl, rfl⟩ (fun _ _ _ => rfl) (.inl rfl) k2 (by simpa using k3)
            refine ⟨_, w, _, hrun, hW, hX, ?_⟩
            have := Rep.hs (A := A.upd o (g + 1) (b, s, arr.size)) (X := Own (A.upd o (g + 1) (b, s, arr.size)) (m.put o ⟨g + 1, .row s (es ++ [])⟩) F) (w := w) o (g + 1) 0 es.length c b s arr.size (Gh.upd_self ..) hc (by rw [Nat.zero_add]; exact htot)
            simpa using this
          · obtain ⟨ad, rfl⟩ := hnsome hys0
            have hlen : 0 < ys.length := List.length_pos_iff.2 hys0
            by_cases hroom : es.length + ys.length ≤ c
            · have hfit : es.length * i.size + news.length ≤ arr.size := by
                rw [hnl, hisz, ← Nat.add_mul]; exact Nat.le_trans (Nat.mul_le_mul_right _ hroom) htot
              have hrun := run_append_room' (P := P) w t ty e ty' i ht hi b es.length c arr k2 ad ys.length cb news (by rw [hisz]; exact hnl) (hnc _ rfl) hn1 hroom hfit
              rw [hisz] at hrun hfit
              have hrow2 : RowRep A (Own A m F) w (arr.toList.take (es.length * s) ++ news ++ arr.toList.drop (es.length * s + news.length)).toArray s (es ++ ys) := grown_row h0 k3.2.2.1 hly hor hnr hof hfy
              obtain ⟨hW, hX⟩ := turn b _ ty' (w.setRow b (arr.toList.take (es.length * s) ++ news ++ arr.toList.drop (es.length * s + news.length)).toArray) (by simp [World.setRow]) ⟨rfl, rfl, rfl⟩ (fun b1 _ hne => setRow_other w b b1 _ hne) (.inl rfl) (setRow_heap w b arr _ ty' (0, 0) k2) hrow2
              refine ⟨_, _, _, hrun, hW, hX, ?_⟩
              have hsize : (arr.toList.take (es.length * s) ++ news ++ arr.toList.drop (es.length * s + news.length)).toArray.size = arr.size := by simp; omega
              have := Rep.hs (A := A.upd o (g + 1) (b, s, (arr.toList.take (es.length * s) ++ news ++ arr.toList.drop (es.length * s + news.length)).toArray.size)) (X := Own (A.upd o (g + 1) (b, s, (arr.toList.take (es.length * s) ++ news ++ arr.toList.drop (es.length * s + news.length)).toArray.size)) (m.put o ⟨g + 1, .row s (es ++ ys)⟩) F) (w := w.setRow b (arr.toList.take (es.length * s) ++ news ++ arr.toList.drop (es.length * s + news.length)).toArray) o (g + 1) 0 (es.length + ys.length) c b s _ (Gh.upd_self ..) hroom (by rw [Nat.zero_add, hsize]; exact htot)
              simpa using this
            · obtain ⟨hrow, hge, harr⟩ := grow es _ c k3.2.2.1 hor hof
              have hrun := run_append_grow (P := P) w t ty e i zv ht hi hzv ⟨b, 0, none⟩ es.length c (arr.toList.take (es.length * s)) (by rw [hisz]; exact List.length_take_of_le (by simpa using k3.2.1))
                (by
                  intro j v hv
                  rw [List.getElem?_take] at hv
                  split at hv
                  · rw [add_cells, Nat.zero_add, cell_of_row w b _ arr ty' (0, 0) k2]; simpa using hv
                  · cases hv)
                ad ys.length cb news (by rw [hisz]; exact hnl) (hnc _ rfl) (by omega) (by omega) (growslice_fits (by omega) hbytes')
              obtain ⟨hW, hX⟩ := turn w.heap.size _ e (w.drew.alloc (.cells ((arr.toList.take (es.length * s)).toArray ++ news.toArray ++ Builtin.zeroCells zv.cells (grownCap w (es.length + ys.length) c e - (es.length + ys.length))) e)) (by simp) ⟨rfl, rfl, rfl⟩ (fun b1 hb1 _ => heap_alloc_old w.drew _ b1 hb1) (.inr (Nat.le_refl _)) (heap_alloc_new w.drew _) hrow
              refine ⟨_, _, _, hrun, hW, hX, ?_⟩
              have := Rep.hs (A := A.upd o (g + 1) (w.heap.size, s, ((arr.toList.take (es.length * s)).toArray ++ news.toArray ++ Builtin.zeroCells zv.cells (grownCap w (es.length + ys.length) c e - (es.length + ys.length))).size)) (X := Own (A.upd o (g + 1) (w.heap.size, s, ((arr.toList.take (es.length * s)).toArray ++ news.toArray ++ Builtin.zeroCells zv.cells (grownCap w (es.length + ys.length) c e - (es.length + ys.length))).size)) (m.put o ⟨g + 1, .row s (es ++ ys)⟩) F) (w := w.drew.alloc (.cells ((arr.toList.take (es.length * s)).toArray ++ news.toArray ++ Builtin.zeroCells zv.cells (grownCap w (es.length + ys.length) c e - (es.length + ys.length))) e)) o (g + 1) 0 (es.length + ys.length) (grownCap w (es.length + ys.length) c e) w.heap.size s _ (Gh.upd_self ..) hge (by rw [Nat.zero_add, harr]; exact Nat.le_refl _)
              simpa using this
        · cases hap
      · cases hap
    · cases hap
  | _ => cases hap
end Go.Abs
