/-
  WALKS: slices.Equal, slices.EqualFunc, cons.Same, fescueref19.Same, fescuelaw19.ConsSame over the abstract interpreter. By this seat's session.
-/
import Derived.Test.YtjcgaelibiiiiaaFacts
set_option linter.unusedVariables false
set_option linter.unusedSimpArgs false
namespace Go.Proofs.Ytjcgaelibiiiiaa
open Go.Abs

def ints (l : List Int) : List (List AVal) := l.map fun z => [.raw (.int .i64 z)]
@[simp] theorem ints_length (l : List Int) : (ints l).length = l.length := by simp [ints]
theorem ints_get {l : List Int} {k : Nat} {z : Int} (h : l[k]? = some z) : (ints l)[k]? = some [.raw (.int .i64 z)] := by simp [ints, h]
@[simp] theorem pack_1 (t : TypeId) (c : AVal) (h : E.isAgg t = some false) : E.pack t [c] = some c := by simp [Env.pack, h]
@[simp] theorem aLen_sl (env : Env) (t : TypeId) (es : List (List AVal)) (e : TypeId) (h : env.under t = some (.slice e)) : aLen env (some t) (.sl es) = some (.raw (.int .i64 es.length)) := by
  simp [aLen, h]
theorem idx_ints {l : List Int} {i : Nat} {z : Int} (h : l[i]? = some z) (m : Mem) : idx E m 23 (.sl (ints l)) (.raw (.int .i64 i)) = some (.ip [.raw (.int .i64 z)], none) :=
  idx_sl (k := i) e_E_under_23 e_E_size_3 (aInd_nat _ _ _ (by simpa using (List.getElem?_eq_some_iff.1 h).1)) (ints_get h) rfl (by decide) _
theorem take_succ_eq {α : Type} {a b : List α} {i : Nat} {x : α} (ha : a[i]? = some x) (hb : b[i]? = some x) (h : a.take i = b.take i) : a.take (i + 1) = b.take (i + 1) := by
  rw [List.take_add_one, List.take_add_one, ha, hb, h]
theorem take_ne {α : Type} {a b : List α} {i : Nat} {x y : α} (ha : a[i]? = some x) (hb : b[i]? = some y) (h : x ≠ y) : a ≠ b := by
  intro e; subst e; rw [ha] at hb; exact h (Option.some.inj hb)
theorem eq_of_take {α : Type} {a b : List α} {i : Nat} (h1 : a.length ≤ i) (h2 : b.length ≤ i) (h : a.take i = b.take i) : a = b := by
  rw [← List.take_of_length_le h1, h, List.take_of_length_le h2]
set_option maxHeartbeats 1000000 in
theorem ev20 (a b : List Int) (ha : a.length < 2 ^ 63) (base : Nat) (gs : GS) : Evals E 20 [.sl (ints a), .sl (ints b)] base gs ([.v (.raw (.bool (decide (a = b))))], gs) := by
  refine evals_walk 26 #[.tmp 4] rfl (by kernel_rfl) b20_eq (by kernel_rfl) (by kernel_rfl) (by simp) fun s hs hm => ?_
  have i0 := hs 0
  have i1 := hs 1
  simp at i0 i1
  clear hs
  unfold b20
  refine aw_seq (aw_region_q r20_0 ?_)
  simp [l20_0]
  refine aw_seq (aw_seq (aw_region_q r20_1 ?_))
  simp [l20_1, i0, i1, aBin, aInt]
  by_cases hl : a.length = b.length
  case neg =>
    refine aw_cond (t := true) (by simp; omega) (aw_seq (aw_region_q r20_2 ?_))
    simp [l20_2]
    exact aw_ret (retQ_tmp (.inr rfl) (by simp; exact fun e => hl (by rw [e])) rfl (by simp [hm]))
  refine aw_cond (t := false) (by simp; omega) (aw_skip ?_)
  simp
  refine aw_seq (aw_seq (aw_region_q r20_3 ?_))
  simp [l20_3, i0]
  refine aw_block (aw_inv (fun k s => ∃ i, k + i = a.length ∧ s.get 0 = .sl (ints a) ∧ s.get 1 = .sl (ints b) ∧ s.get 12 = .raw (.int .i64 a.length) ∧ s.get 13 = .raw (.int .i64 i) ∧ s.m = ⟨⟨[]⟩, gs⟩ ∧ a.take i = b.take i) a.length ?_ ?_)
  · exact ⟨0, by simp [i0, i1, hm]⟩
  clear i0 i1 hm s
  rintro k s ⟨i, hk, i0, i1, i12, i13, hm, ht⟩
  unfold b20_L0
  refine aw_seq (aw_region_q r20_4 ?_)
  simp [l20_4, i0, i1, i12, i13, aBin, aInt]
  by_cases hlt : i < a.length
  case neg =>
    refine aw_seq (aw_cond (t := false) (by simp; omega) (aw_exit ?_))
    simp
    refine aw_seq (aw_region_q r20_9 ?_)
    simp [l20_9]
    exact aw_ret (retQ_tmp (.inr rfl) (by simp; exact eq_of_take (by omega) (by omega) ht) rfl (by simp [hm]))
  refine aw_seq (aw_cond (t := true) (by simp; omega) (aw_skip ?_))
  simp
  refine aw_seq (aw_block (aw_seq (aw_region_q r20_5 ?_)))
  simp [l20_5, i13]
  refine aw_seq (aw_region_d r20_6 ?_)
  obtain ⟨x, hx⟩ : ∃ x, a[i]? = some x := ⟨a[i], by simp [hlt]⟩
  obtain ⟨y, hy⟩ : ∃ y, b[i]? = some y := ⟨b[i]'(by omega), by simp⟩
  simp [l20_6, i0, i1, i12, i13, aBin, aInt, hm, idx_ints hx, idx_ints hy, sub]
  by_cases hxy : x = y
  case neg =>
    refine aw_cond (t := true) (by simp [hxy]) (aw_seq (aw_region_q r20_7 ?_))
    simp [l20_7]
    exact aw_ret (retQ_tmp (.inr rfl) (by simp; exact take_ne hx hy hxy) rfl (by simp [hm]))
  refine aw_cond (t := false) (by simp [hxy]) (aw_skip ?_)
  simp
  refine aw_region_q r20_8 ?_
  simp [l20_8, i13, aBin, aInt]
  refine ⟨k - 1, by omega, i + 1, by omega, i0, i1, i12, ?_, hm, take_succ_eq hx (hxy ▸ hy) ht⟩
  rw [wrap_i64 (by omega) (by omega)]; simp

structure ConV where
  kind : Int
  to_ : Int
  from_ : Int
  n : Int
  args : List Int
def conC (c : ConV) : List AVal := [.raw (.int .u8 c.kind), .raw (.int .i64 c.to_), .raw (.int .i64 c.from_), .raw (.int .i64 c.n), .sl (ints c.args)]
def sameC (x y : ConV) : Bool := decide (x.kind = y.kind) && (decide (x.to_ = y.to_) && (decide (x.from_ = y.from_) && (decide (x.n = y.n) && decide (x.args = y.args))))
@[simp] theorem site_no (f d : Nat) : E.site f d = false := by kernel_rfl
@[simp] theorem eff_no (f : Nat) : E.eff f = false := by kernel_rfl
set_option maxHeartbeats 4000000 in
theorem ev19 (x y : ConV) (hx : x.args.length < 2 ^ 63) (base : Nat) (gs : GS) : Evals E 19 [.agg (conC x), .agg (conC y)] base gs ([.v (.raw (.bool (sameC x y)))], gs) := by
  refine evals_walk 38 #[.tmp 4] rfl (by kernel_rfl) b19_eq (by kernel_rfl) (by kernel_rfl) (by simp) fun s hs hm => ?_
  have i0 := hs 0
  have i1 := hs 1
  simp at i0 i1
  clear hs
  unfold b19
  refine aw_seq (aw_region_q r19_0 ?_)
  simp [l19_0, i0, i1, box1_loc, AVal.cells, conC, AVal.isCell, rawCell, ints_length]
  refine aw_seq (aw_region_d r19_1 ?_)
  have o8 : (newLoc 12 (newLoc 8 s.m (.box (conC x))) (.box (conC y))).obj (.loc 8) = ⟨genOf s.m 8, .box (conC x)⟩ := by simp
  have o12 : (newLoc 12 (newLoc 8 s.m (.box (conC x))) (.box (conC y))).obj (.loc 12) = ⟨genOf (newLoc 8 s.m (.box (conC x))) 12, .box (conC y)⟩ := by simp
  have og : (newLoc 12 (newLoc 8 s.m (.box (conC x))) (.box (conC y))).gs = gs := by simp [hm]
  simp only [conC] at o8 o12 og
  generalize (newLoc 12 (newLoc 8 s.m _) _) = M at *
  generalize genOf s.m 8 = g8 at *
  generalize genOf (newLoc 8 s.m _) 12 = g12 at *
  simp [l19_1, drawQ, aBin, aInt, o8, o12, sub]
  by_cases h1 : x.kind = y.kind
  case neg =>
    have e : (x.kind == y.kind) = false := by simp [h1]
    simp [e]
    exact aw_ret (retQ_tmp (.inr rfl) (by simp [sameC, h1]) rfl (by simp [og]))
  simp [h1, aBin, aInt, o8, o12, sub]
  by_cases h2 : x.to_ = y.to_
  case neg =>
    have e : (x.to_ == y.to_) = false := by simp [h2]
    simp [e]
    exact aw_ret (retQ_tmp (.inr rfl) (by simp [sameC, h2]) rfl (by simp [og]))
  simp [h2, aBin, aInt, o8, o12, sub]
  by_cases h3 : x.from_ = y.from_
  case neg =>
    have e : (x.from_ == y.from_) = false := by simp [h3]
    simp [e]
    exact aw_ret (retQ_tmp (.inr rfl) (by simp [sameC, h3]) rfl (by simp [og]))
  simp [h3, aBin, aInt, o8, o12, sub]
  by_cases h4 : x.n = y.n
  case neg =>
    have e : (x.n == y.n) = false := by simp [h4]
    simp [e]
    exact aw_ret (retQ_tmp (.inr rfl) (by simp [sameC, h4]) rfl (by simp [og]))
  simp [h4, aBin, aInt, o8, o12, sub]
  refine wpC_plain (by simp) (by simp [plainArg, plain1, AVal.shared]) (ev20 x.args y.args hx _ _) ⟨by simp, ?_⟩
  simp
  exact aw_ret (retQ_tmp (.inr rfl) (by simp [sameC, h1, h2, h3, h4]) rfl (by simp [og]))

def cons (l : List ConV) : List (List AVal) := l.map conC
@[simp] theorem cons_length (l : List ConV) : (cons l).length = l.length := by simp [cons]
theorem cons_get {l : List ConV} {k : Nat} {z : ConV} (h : l[k]? = some z) : (cons l)[k]? = some (conC z) := by simp [cons, h]
theorem idx_cons {l : List ConV} {i : Nat} {z : ConV} (h : l[i]? = some z) (m : Mem) : idx E m 22 (.sl (cons l)) (.raw (.int .i64 i)) = some (.ip (conC z), none) :=
  idx_sl (k := i) e_E_under_22 e_E_size_25 (aInd_nat _ _ _ (by simpa using (List.getElem?_eq_some_iff.1 h).1)) (cons_get h) rfl (by decide) _
@[simp] theorem pack_agg (t : TypeId) (cs : List AVal) (h : E.isAgg t = some true) : E.pack t cs = some (.agg cs) := by simp [Env.pack, h]
theorem sub_all (cs : List AVal) (n : Nat) (h : cs.length = n) : sub cs 0 n = some cs := by subst h; simp [sub]
theorem splice_all (cs new : List AVal) (h : cs.length = new.length) : splice cs 0 new = some new := by
  unfold splice; simp [h]
@[simp] theorem conC_len (c : ConV) : (conC c).length = 5 := rfl
theorem conC_cell (c : ConV) : (conC c).all AVal.isCell = true := rfl
theorem conC_plain (c : ConV) : (conC c).all plain1 = true := rfl
def sameL : List ConV → List ConV → Bool
  | [], [] => true
  | x :: a, y :: b => sameC x y && sameL a b
  | _, _ => false
theorem sameL_len : ∀ (a b : List ConV), a.length ≠ b.length → sameL a b = false
  | [], [], h => absurd rfl h
  | [], _ :: _, _ => rfl
  | _ :: _, [], _ => rfl
  | x :: a, y :: b, h => by simp only [sameL, sameL_len a b (by simpa using h), Bool.and_false]
theorem sameL_step : ∀ (a b : List ConV) (i : Nat) (x y : ConV), a[i]? = some x → b[i]? = some y → sameL (a.drop i) (b.drop i) = (sameC x y && sameL (a.drop (i + 1)) (b.drop (i + 1))) := by
  intro a b i x y h1 h2
  obtain ⟨l1, rfl⟩ := List.getElem?_eq_some_iff.1 h1
  obtain ⟨l2, rfl⟩ := List.getElem?_eq_some_iff.1 h2
  rw [List.drop_eq_getElem_cons l1, List.drop_eq_getElem_cons l2]; rfl
def conOk (l : List ConV) : Prop := ∀ c ∈ l, c.args.length < 2 ^ 63
set_option maxHeartbeats 4000000 in
theorem ev18 (a b : List ConV) (ha : a.length < 2 ^ 63) (hca : conOk a) (base : Nat) (gs : GS) : Evals E 18 [.sl (cons a), .sl (cons b), .clo 19 [] []] base gs ([.v (.raw (.bool (sameL a b)))], gs) := by
  refine evals_walk 32 #[.tmp 6] rfl (by kernel_rfl) b18_eq (by kernel_rfl) (by kernel_rfl) (by simp) fun s hs hm => ?_
  have i0 := hs 0
  have i1 := hs 1
  have i2 := hs 2
  simp at i0 i1 i2
  have hg : s.m.gs = gs := by rw [hm]
  clear hs hm
  unfold b18
  refine aw_seq (aw_region_q r18_0 ?_)
  simp [l18_0]
  refine aw_seq (aw_seq (aw_region_q r18_1 ?_))
  simp [l18_1, i0, i1, aBin, aInt]
  by_cases hl : a.length = b.length
  case neg =>
    refine aw_cond (t := true) (by simp; omega) (aw_seq (aw_region_q r18_2 ?_))
    simp [l18_2]
    exact aw_ret (retQ_tmp (.inr rfl) (by simp; rw [sameL_len _ _ hl]) rfl (by simp [hg]))
  refine aw_cond (t := false) (by simp; omega) (aw_skip ?_)
  simp
  refine aw_seq (aw_seq (aw_region_q r18_3 ?_))
  simp [l18_3, i0]
  refine aw_block (aw_inv (fun k s => ∃ i, k + i = a.length ∧ s.get 0 = .sl (cons a) ∧ s.get 1 = .sl (cons b) ∧ s.get 2 = .clo 19 [] [] ∧ s.get 15 = .sl (cons a) ∧ s.get 16 = .raw (.int .i64 a.length) ∧ s.get 17 = .raw (.int .i64 i) ∧ s.m.gs = gs ∧ sameL a b = sameL (a.drop i) (b.drop i)) a.length ?_ ?_)
  · exact ⟨0, by simp [i0, i1, i2, hg]⟩
  clear i0 i1 i2 hg s
  rintro k s ⟨i, hk, i0, i1, i2, i15, i16, i17, hg, ht⟩
  unfold b18_L0
  refine aw_seq (aw_region_q r18_4 ?_)
  simp [l18_4, i16, i17, aBin, aInt]
  by_cases hlt : i < a.length
  case neg =>
    refine aw_seq (aw_cond (t := false) (by simp; omega) (aw_exit ?_))
    simp
    refine aw_seq (aw_region_q r18_10 ?_)
    simp [l18_10]
    exact aw_ret (retQ_tmp (.inr rfl) (by simp; rw [ht, List.drop_eq_nil_of_le (by omega), List.drop_eq_nil_of_le (by omega)]; rfl) rfl (by simp [hg]))
  refine aw_seq (aw_cond (t := true) (by simp; omega) (aw_skip ?_))
  simp
  obtain ⟨x, hx⟩ : ∃ x, a[i]? = some x := ⟨a[i], by simp [hlt]⟩
  obtain ⟨y, hy⟩ : ∃ y, b[i]? = some y := ⟨b[i]'(by omega), by simp⟩
  refine aw_seq (aw_block (aw_seq (aw_region_q r18_5 ?_)))
  have sx : sub (conC x) 0 5 = some (conC x) := sub_all _ _ rfl
  have sy : sub (conC y) 0 5 = some (conC y) := sub_all _ _ rfl
  have wx := write_new (base := base) (m := s.m) (k := 32) (z := [AVal.raw (.int .u8 0), .raw (.int .i64 0), .raw (.int .i64 0), .raw (.int .i64 0), .e0]) (new := conC x) rfl (conC_cell x)
  simp [l18_5, i15, i17, idx_cons hx, sx, alloc1_loc, AVal.cells, wx]
  refine aw_seq (aw_region_q r18_6 ?_)
  have wy := fun m : Mem => write_new (base := base) (m := m) (k := 36) (z := [AVal.raw (.int .u8 0), .raw (.int .i64 0), .raw (.int .i64 0), .raw (.int .i64 0), .e0]) (new := conC y) rfl (conC_cell y)
  simp [l18_6, i1, idx_cons hy, sy, alloc1_loc, AVal.cells, wy]
  refine aw_seq (aw_region_q r18_7 ?_)
  simp [l18_7, i2, sx, sy]
  refine wpC_plain (by simp) (by simp [plainArg, conC_plain]) (ev19 x y (hca x (List.mem_of_getElem? hx)) _ _) ⟨by simp, ?_⟩
  simp [aUn, hg]
  by_cases hxy : sameC x y = true
  case neg =>
    have e : sameC x y = false := by simpa using hxy
    refine aw_cond (t := true) (by simp [e]) (aw_seq (aw_region_q r18_8 ?_))
    simp [l18_8]
    exact aw_ret (retQ_tmp (.inr rfl) (by simp; rw [ht, sameL_step _ _ _ _ _ hx hy, e]; rfl) rfl (by simp [hg]))
  refine aw_cond (t := false) (by simp [hxy]) (aw_skip ?_)
  simp
  refine aw_region_q r18_9 ?_
  simp [l18_9, i17, aBin, aInt]
  refine ⟨k - 1, by omega, i + 1, by omega, i0, i1, i2, i15, i16, ?_, hg, ?_⟩
  · rw [wrap_i64 (by omega) (by omega)]; simp
  · rw [ht, sameL_step _ _ _ _ _ hx hy, hxy, Bool.true_and]

theorem ev17 (a b : List Int) (ha : a.length < 2 ^ 63) (base : Nat) (gs : GS) : Evals E 17 [.sl (ints a), .sl (ints b)] base gs ([.v (.raw (.bool (decide (a = b))))], gs) := by
  refine evals_walk 26 #[.tmp 4] rfl (by kernel_rfl) b17_eq (by kernel_rfl) (by kernel_rfl) (by simp) fun s hs hm => ?_
  have i0 := hs 0
  have i1 := hs 1
  simp at i0 i1
  clear hs
  unfold b17
  refine aw_seq (aw_region_q r17_0 ?_)
  simp [l17_0]
  refine aw_seq (aw_seq (aw_region_q r17_1 ?_))
  simp [l17_1, i0, i1, aBin, aInt]
  by_cases hl : a.length = b.length
  case neg =>
    refine aw_cond (t := true) (by simp; omega) (aw_seq (aw_region_q r17_2 ?_))
    simp [l17_2]
    exact aw_ret (retQ_tmp (.inr rfl) (by simp; exact fun e => hl (by rw [e])) rfl (by simp [hm]))
  refine aw_cond (t := false) (by simp; omega) (aw_skip ?_)
  simp
  refine aw_seq (aw_seq (aw_region_q r17_3 ?_))
  simp [l17_3, i0]
  refine aw_block (aw_inv (fun k s => ∃ i, k + i = a.length ∧ s.get 0 = .sl (ints a) ∧ s.get 1 = .sl (ints b) ∧ s.get 5 = .raw (.int .i64 i) ∧ s.m = ⟨⟨[]⟩, gs⟩ ∧ a.take i = b.take i) a.length ?_ ?_)
  · exact ⟨0, by simp [i0, i1, hm]⟩
  clear i0 i1 hm s
  rintro k s ⟨i, hk, i0, i1, i5, hm, ht⟩
  unfold b17_L0
  refine aw_seq (aw_seq (aw_region_q r17_4 ?_))
  simp [l17_4, i0, i1, i5, aBin, aInt]
  by_cases hlt : i < a.length
  case neg =>
    refine aw_cond (t := false) (by simp; omega) (aw_exit ?_)
    simp
    refine aw_seq (aw_region_q r17_8 ?_)
    simp [l17_8]
    exact aw_ret (retQ_tmp (.inr rfl) (by simp; exact eq_of_take (by omega) (by omega) ht) rfl (by simp [hm]))
  refine aw_cond (t := true) (by simp; omega) (aw_skip ?_)
  simp
  refine aw_seq (aw_block (aw_seq (aw_region_d r17_6 ?_)))
  obtain ⟨x, hx⟩ : ∃ x, a[i]? = some x := ⟨a[i], by simp [hlt]⟩
  obtain ⟨y, hy⟩ : ∃ y, b[i]? = some y := ⟨b[i]'(by omega), by simp⟩
  simp [l17_6, i0, i1, i5, aBin, aInt, hm, idx_ints hx, idx_ints hy, sub]
  by_cases hxy : x = y
  case neg =>
    refine aw_cond (t := true) (by simp [hxy]) (aw_seq (aw_region_q r17_7 ?_))
    simp [l17_7]
    exact aw_ret (retQ_tmp (.inr rfl) (by simp; exact take_ne hx hy hxy) rfl (by simp [hm]))
  refine aw_cond (t := false) (by simp [hxy]) (aw_skip ?_)
  simp
  refine aw_region_q r17_5 ?_
  simp [l17_5, i5, aBin, aInt]
  refine ⟨k - 1, by omega, i + 1, by omega, i0, i1, ?_, hm, take_succ_eq hx (hxy ▸ hy) ht⟩
  rw [wrap_i64 (by omega) (by omega)]; simp
theorem ev5 (a b : List ConV) (ha : a.length < 2 ^ 63) (hca : conOk a) (base : Nat) (gs : GS) : Evals E 5 [.sl (cons a), .sl (cons b)] base gs ([.v (.raw (.bool (sameL a b)))], gs) := by
  refine evals_walk 8 #[.tmp 4] rfl (by kernel_rfl) b5_eq (by kernel_rfl) (by kernel_rfl) (by simp) fun s hs hm => ?_
  have i0 := hs 0
  have i1 := hs 1
  simp at i0 i1
  unfold b5
  refine aw_seq (aw_region_q r5_0 ?_)
  simp [l5_0]
  refine aw_seq (aw_region_q r5_1 ?_)
  simp [l5_1, i0, i1]
  refine wpC_plain (by simp) (by simp [plainArg, plain1, AVal.shared]) (ev18 a b ha hca _ _) ⟨by simp, ?_⟩
  simp
  exact aw_ret (retQ_tmp (.inr rfl) (by simp) rfl (by simp [hm]))
set_option maxHeartbeats 8000000 in
theorem ev6 (a b : List ConV) (ha : a.length < 2 ^ 63) (hca : conOk a) (base : Nat) (gs : GS) : Evals E 6 [.sl (cons a), .sl (cons b)] base gs ([.v (.raw (.bool (sameL a b)))], gs) := by
  refine evals_walk 81 #[.tmp 4] rfl (by kernel_rfl) b6_eq (by kernel_rfl) (by kernel_rfl) (by simp) fun s hs hm => ?_
  have i0 := hs 0
  have i1 := hs 1
  simp at i0 i1
  clear hs
  unfold b6
  refine aw_seq (aw_region_q r6_0 ?_)
  simp [l6_0]
  refine aw_seq (aw_seq (aw_region_q r6_1 ?_))
  simp [l6_1, i0, i1, aBin, aInt]
  by_cases hl : a.length = b.length
  case neg =>
    refine aw_cond (t := true) (by simp; omega) (aw_seq (aw_region_q r6_2 ?_))
    simp [l6_2]
    exact aw_ret (retQ_tmp (.inr rfl) (by simp; rw [sameL_len _ _ hl]) rfl (by simp [hm]))
  refine aw_cond (t := false) (by simp; omega) (aw_skip ?_)
  simp
  refine aw_seq (aw_seq (aw_region_q r6_3 ?_))
  simp [l6_3, i0]
  refine aw_block (aw_inv (fun k s => ∃ i, k + i = a.length ∧ s.get 0 = .sl (cons a) ∧ s.get 1 = .sl (cons b) ∧ s.get 5 = .raw (.int .i64 i) ∧ s.m = ⟨⟨[]⟩, gs⟩ ∧ sameL a b = sameL (a.drop i) (b.drop i)) a.length ?_ ?_)
  · exact ⟨0, by simp [i0, i1, hm]⟩
  clear i0 i1 hm s
  rintro k s ⟨i, hk, i0, i1, i5, hm, ht⟩
  unfold b6_L0
  refine aw_seq (aw_seq (aw_region_q r6_4 ?_))
  simp [l6_4, i0, i1, i5, aBin, aInt]
  by_cases hlt : i < a.length
  case neg =>
    refine aw_cond (t := false) (by simp; omega) (aw_exit ?_)
    simp
    refine aw_seq (aw_region_q r6_8 ?_)
    simp [l6_8]
    exact aw_ret (retQ_tmp (.inr rfl) (by simp; rw [ht, List.drop_eq_nil_of_le (by omega), List.drop_eq_nil_of_le (by omega)]; rfl) rfl (by simp [hm]))
  refine aw_cond (t := true) (by simp; omega) (aw_skip ?_)
  simp
  refine aw_seq (aw_block (aw_seq (aw_region_d r6_6 ?_)))
  obtain ⟨x, hx⟩ : ∃ x, a[i]? = some x := ⟨a[i], by simp [hlt]⟩
  obtain ⟨y, hy⟩ : ∃ y, b[i]? = some y := ⟨b[i]'(by omega), by simp⟩
  simp [l6_6, i0, i1, i5, aBin, aInt, hm, idx_cons hx, idx_cons hy, conC, sub]
  by_cases h1 : x.kind = y.kind
  case neg =>
    have e : (x.kind != y.kind) = true := by simp [h1]
    simp [e]
    refine aw_cond (t := true) (by simp) (aw_seq (aw_region_q r6_7 ?_))
    simp [l6_7]
    exact aw_ret (retQ_tmp (.inr rfl) (by simp; rw [ht, sameL_step _ _ _ _ _ hx hy]; simp [sameC, h1]) rfl (by simp [hm]))
  simp [h1, i0, i1, i5, aBin, aInt, hm, idx_cons hx, idx_cons hy, conC, sub]
  by_cases h2 : x.to_ = y.to_
  case neg =>
    have e : (x.to_ != y.to_) = true := by simp [h2]
    simp [e]
    refine aw_cond (t := true) (by simp) (aw_seq (aw_region_q r6_7 ?_))
    simp [l6_7]
    exact aw_ret (retQ_tmp (.inr rfl) (by simp; rw [ht, sameL_step _ _ _ _ _ hx hy]; simp [sameC, h2]) rfl (by simp [hm]))
  simp [h2, i0, i1, i5, aBin, aInt, hm, idx_cons hx, idx_cons hy, conC, sub]
  by_cases h3 : x.from_ = y.from_
  case neg =>
    have e : (x.from_ != y.from_) = true := by simp [h3]
    simp [e]
    refine aw_cond (t := true) (by simp) (aw_seq (aw_region_q r6_7 ?_))
    simp [l6_7]
    exact aw_ret (retQ_tmp (.inr rfl) (by simp; rw [ht, sameL_step _ _ _ _ _ hx hy]; simp [sameC, h3]) rfl (by simp [hm]))
  simp [h3, i0, i1, i5, aBin, aInt, hm, idx_cons hx, idx_cons hy, conC, sub]
  by_cases h4 : x.n = y.n
  case neg =>
    have e : (x.n != y.n) = true := by simp [h4]
    simp [e]
    refine aw_cond (t := true) (by simp) (aw_seq (aw_region_q r6_7 ?_))
    simp [l6_7]
    exact aw_ret (retQ_tmp (.inr rfl) (by simp; rw [ht, sameL_step _ _ _ _ _ hx hy]; simp [sameC, h4]) rfl (by simp [hm]))
  simp [h4, i0, i1, i5, aBin, aInt, hm, idx_cons hx, idx_cons hy, conC, sub]
  refine wpC_plain (by simp) (by simp [plainArg, plain1, AVal.shared]) (ev17 x.args y.args (hca x (List.mem_of_getElem? hx)) _ _) ⟨by simp, ?_⟩
  simp [aUn]
  by_cases h5 : x.args = y.args
  case neg =>
    refine aw_cond (t := true) (by simp [h5]) (aw_seq (aw_region_q r6_7 ?_))
    simp [l6_7]
    exact aw_ret (retQ_tmp (.inr rfl) (by simp; rw [ht, sameL_step _ _ _ _ _ hx hy]; simp [sameC, h5]) rfl (by simp [hm]))
  refine aw_cond (t := false) (by simp [h5]) (aw_skip ?_)
  simp
  refine aw_region_q r6_5 ?_
  simp [l6_5, i5, aBin, aInt]
  refine ⟨k - 1, by omega, i + 1, by omega, i0, i1, ?_, hm, ?_⟩
  · rw [wrap_i64 (by omega) (by omega)]; simp
  · rw [ht, sameL_step _ _ _ _ _ hx hy]; simp [sameC, h1, h2, h3, h4, h5]
set_option maxHeartbeats 4000000 in
theorem ev3 (a b : List ConV) (ha : a.length < 2 ^ 63) (hca : conOk a) (base : Nat) (gs : GS) : Evals E 3 [.sl (cons a), .sl (cons b)] base gs ([.v (.raw (.bool true))], gs) := by
  refine evals_walk 34 #[.tmp 4] rfl (by kernel_rfl) b3_eq (by kernel_rfl) (by kernel_rfl) (by simp) fun s hs hm => ?_
  have i0 := hs 0
  have i1 := hs 1
  simp at i0 i1
  clear hs
  unfold b3
  refine aw_seq (aw_region_q r3_0 ?_)
  simp [l3_0]
  refine aw_seq (aw_seq (aw_region_q r3_1 ?_))
  simp [l3_1, i0, i1, aBin, aInt]
  by_cases h1 : 100 < a.length
  case pos =>
    have e : decide (100 < (a.length : Int)) = true := by simp; omega
    simp [e]
    refine aw_cond (t := true) (by simp) (aw_seq (aw_region_q r3_2 ?_))
    simp [l3_2]
    exact aw_ret (retQ_tmp (.inr rfl) (by simp) rfl (by simp [hm]))
  have e : decide (100 < (a.length : Int)) = false := by simp; omega
  simp [e, i1, aBin, aInt]
  by_cases h2 : 100 < b.length
  case pos =>
    refine aw_cond (t := true) (by simp; omega) (aw_seq (aw_region_q r3_2 ?_))
    simp [l3_2]
    exact aw_ret (retQ_tmp (.inr rfl) (by simp) rfl (by simp [hm]))
  refine aw_cond (t := false) (by simp; omega) (aw_skip ?_)
  simp
  refine aw_seq (aw_seq (aw_region_q r3_3 ?_))
  simp [l3_3, i0]
  refine aw_block (aw_inv (fun k s => ∃ i, k + i = a.length ∧ s.get 0 = .sl (cons a) ∧ s.get 1 = .sl (cons b) ∧ s.get 5 = .raw (.int .i64 i) ∧ s.m = ⟨⟨[]⟩, gs⟩) a.length ?_ ?_)
  · exact ⟨0, by simp [i0, i1, hm]⟩
  clear i0 i1 hm s
  rintro k s ⟨i, hk, i0, i1, i5, hm⟩
  unfold b3_L0
  refine aw_seq (aw_seq (aw_region_q r3_4 ?_))
  simp [l3_4, i0, i1, i5, aBin, aInt]
  by_cases hlt : i < a.length
  case neg =>
    refine aw_cond (t := false) (by simp; omega) (aw_exit ?_)
    simp
    refine aw_seq (aw_region_q r3_8 ?_)
    simp [l3_8, i0, i1]
    refine wpC_plain (by simp) (by simp [plainArg, plain1, AVal.shared]) (ev5 a b ha hca _ _) ⟨by simp, ?_⟩
    simp [i0, i1]
    refine wpC_plain (by simp) (by simp [plainArg, plain1, AVal.shared]) (ev6 a b ha hca _ _) ⟨by simp, ?_⟩
    simp [aBin]
    exact aw_ret (retQ_tmp (.inr rfl) (by simp) rfl (by simp [hm]))
  refine aw_cond (t := true) (by simp; omega) (aw_skip ?_)
  simp
  obtain ⟨x, hx⟩ : ∃ x, a[i]? = some x := ⟨a[i], by simp [hlt]⟩
  refine aw_seq (aw_block (aw_seq (aw_region_q r3_6 ?_)))
  simp [l3_6, i0, i1, i5, aBin, aInt, hm, idx_cons hx, conC, sub]
  by_cases h3 : 20 < x.args.length
  case pos =>
    refine aw_cond (t := true) (by simp; omega) (aw_seq (aw_region_q r3_7 ?_))
    simp [l3_7]
    exact aw_ret (retQ_tmp (.inr rfl) (by simp) rfl (by simp [hm]))
  refine aw_cond (t := false) (by simp; omega) (aw_skip ?_)
  simp
  refine aw_region_q r3_5 ?_
  simp [l3_5, i5, aBin, aInt]
  refine ⟨k - 1, by omega, i + 1, by omega, i0, i1, ?_, hm⟩
  rw [wrap_i64 (by omega) (by omega)]; simp
end Go.Proofs.Ytjcgaelibiiiiaa
