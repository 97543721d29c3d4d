/-
  bits.Check over the abstract interpreter. By this seat's session.
-/
import Derived.Test.YtjcgaelibiiiiaaDoorFacts
set_option linter.unusedVariables false
set_option linter.unusedSimpArgs false
namespace Go.Proofs.YtjcgaelibiiiiaaDoor
open Go.Abs
variable {x : ExtF}
def wordC (p : Int × Int) : List AVal := [.raw (.int .i64 p.1), .raw (.int .u64 p.2)]
@[simp] theorem wordC_len (p : Int × Int) : (wordC p).length = 2 := by unfold wordC; rfl
def wordsA (ws : List (Int × Int)) : List (List AVal) := ws.map wordC
@[simp] theorem wordsA_length (l : List (Int × Int)) : (wordsA l).length = l.length := by simp [wordsA]
theorem wordsA_get {l : List (Int × Int)} {k : Nat} {z : Int × Int} (h : l[k]? = some z) : (wordsA l)[k]? = some (wordC z) := by simp [wordsA, h]
@[simp] theorem pack_1 (t : TypeId) (c : AVal) (h : (EX x).isAgg t = some false) : (EX x).pack t [c] = some c := by simp [Env.pack, h]
@[simp] theorem pack_agg (t : TypeId) (cs : List AVal) (h : (EX x).isAgg t = some true) : (EX x).pack t cs = some (.agg cs) := by simp [Env.pack, h]
@[simp] theorem aLen_sl (env : Env) (t : TypeId) (es : List (List AVal)) (e : TypeId) (h : env.under t = some (.slice e)) : aLen env (some t) (.sl es) = some (.raw (.int .i64 es.length)) := by
  simp [aLen, h]
theorem idx_words {l : List (Int × Int)} {i : Nat} {z : Int × Int} (h : l[i]? = some z) (m : Mem) : idx (EX x) m 23 (.sl (wordsA l)) (.raw (.int .i64 i)) = some (.ip (wordC z), none) :=
  idx_sl (k := i) (e_E_under_23 x) (e_E_size_52 x) (aInd_nat _ _ _ (by simpa using (List.getElem?_eq_some_iff.1 h).1)) (wordsA_get h) rfl (by decide) _
theorem goodI_step (last : Int) {ws : List (Int × Int)} {i : Nat} {p : Int × Int} (h : ws[i]? = some p) : goodI last (ws.drop i) = (decide (last < p.1) && decide (p.1 < 16384) && decide (p.2 ≠ 0) && goodI p.1 (ws.drop (i + 1))) := by
  obtain ⟨hl, rfl⟩ := List.getElem?_eq_some_iff.1 h
  rw [List.drop_eq_getElem_cons hl]
  rfl
theorem sub_all (cs : List AVal) (n : Nat) (h : cs.length = n) : sub cs 0 n = some cs := by subst h; simp [sub]
theorem site15 (d : Nat) : (EX x).site 15 d = false := by
  show (sites.contains (15, d)) = false
  simp [sites]
set_option maxHeartbeats 4000000 in
theorem ev15 (hx : x 15 = none) (ws : List (Int × Int)) (hl : ws.length < 2 ^ 63) (base : Nat) (gs : GS) : Evals (EX x) 15 [.sl (wordsA ws)] base gs ([.v (.raw (.int .i64 (if goodI (-1) ws then 0 else 8)))], gs) := by
  refine evals_walk 29 #[.tmp 2] hx (by kernel_rfl) b15_eq (by kernel_rfl) (by kernel_rfl) (by simp) fun s hs hm => ?_
  have i0 := hs 0
  simp at i0
  have hg : s.m.gs = gs := by rw [hm]
  clear hs hm
  unfold b15
  refine aw_seq (aw_region_q r15_0 ?_)
  simp [l15_0]
  refine aw_seq (aw_region_q r15_1 ?_)
  simp [l15_1]
  refine aw_seq (aw_seq (aw_region_q r15_2 ?_))
  simp [l15_2, i0]
  refine aw_block (aw_inv (fun k s => ∃ (i : Nat) (last : Int), k + i = ws.length ∧ s.get 6 = .sl (wordsA ws) ∧ s.get 7 = .raw (.int .i64 ws.length) ∧ s.get 8 = .raw (.int .i64 i) ∧ s.get 3 = .raw (.int .i64 last) ∧ s.m.gs = gs ∧ goodI (-1) ws = goodI last (ws.drop i)) ws.length ?_ ?_)
  · exact ⟨0, -1, by simp [hg]⟩
  clear i0 hg s
  rintro k s ⟨i, last, hk, i6, i7, i8, i3, hg, ht⟩
  unfold b15_L0
  refine aw_seq (aw_region_q r15_3 ?_)
  simp [l15_3, i7, i8, aBin, aInt]
  by_cases hlt : i < ws.length
  case neg =>
    refine aw_seq (aw_cond (t := false) (by simp; omega) (aw_exit ?_))
    simp
    refine aw_seq (aw_region_q r15_9 ?_)
    simp [l15_9]
    exact aw_ret (retQ_tmp (.inr rfl) (by simp; rw [ht, List.drop_eq_nil_of_le (by omega)]; rfl) rfl (by simp [hg]))
  refine aw_seq (aw_cond (t := true) (by simp; omega) (aw_skip ?_))
  simp
  obtain ⟨p, hp⟩ : ∃ p, ws[i]? = some p := ⟨ws[i], by simp [hlt]⟩
  have sp : sub (wordC p) 0 2 = some (wordC p) := sub_all _ _ rfl
  have wp := write_new (base := base) (m := s.m) (k := 20) (z := [AVal.raw (.int .i64 0), .raw (.int .u64 0)]) (new := wordC p) rfl rfl
  refine aw_seq (aw_block (aw_seq (aw_region_q r15_4 ?_)))
  simp [l15_4, i6, i8, idx_words hp, sp, alloc1_loc, site15, AVal.cells, wp]
  refine aw_seq (aw_seq (aw_region_q r15_5 ?_))
  simp [l15_5, i3, aBin, aInt, wordC, sub]
  by_cases h1 : p.1 ≤ last
  case pos =>
    simp [h1]
    refine aw_cond (t := true) (by simp) (aw_seq (aw_region_q r15_6 ?_))
    simp [l15_6]
    exact aw_ret (retQ_tmp (.inr rfl) (by simp; rw [ht, goodI_step _ hp]; have : ¬ last < p.1 := by omega
                                          simp [this]) rfl (by simp [hg]))
  simp [h1, aBin, aInt, sub]
  by_cases h2 : 16384 ≤ p.1
  case pos =>
    simp [h2]
    refine aw_cond (t := true) (by simp) (aw_seq (aw_region_q r15_6 ?_))
    simp [l15_6]
    exact aw_ret (retQ_tmp (.inr rfl) (by simp; rw [ht, goodI_step _ hp]; have : ¬ p.1 < 16384 := by omega
                                          simp [this]) rfl (by simp [hg]))
  simp [h2, aBin, aInt, sub]
  by_cases h3 : p.2 = 0
  case pos =>
    refine aw_cond (t := true) (by simp [h3]) (aw_seq (aw_region_q r15_6 ?_))
    simp [l15_6]
    exact aw_ret (retQ_tmp (.inr rfl) (by simp; rw [ht, goodI_step _ hp]; simp [h3]) rfl (by simp [hg]))
  refine aw_cond (t := false) (by simp [h3]) (aw_skip ?_)
  simp
  refine aw_region_q r15_7 ?_
  simp [l15_7, sub]
  refine aw_region_q r15_8 ?_
  simp [l15_8, i8, aBin, aInt]
  refine ⟨k - 1, by omega, i + 1, by omega, i6, i7, ?_, hg, ?_⟩
  · rw [wrap_i64 (by omega) (by omega)]; simp
  · rw [ht, goodI_step _ hp]
    have e1 : last < p.1 := by omega
    have e2 : p.1 < 16384 := by omega
    simp [e1, e2, h3]
end Go.Proofs.YtjcgaelibiiiiaaDoor
