/-
  Sets put together: what is in them. Plain Lean, of no program. By this seat's session.
-/
import Derived.Test.YtjcgaelibiiiiaaDoorW4
set_option linter.unusedVariables false
namespace Go.Proofs.YtjcgaelibiiiiaaDoor
open Go.Abs
/-- The word of a key; 0: there is none. -/
def wordAt : List (Int × Int) → Int → Int
  | [], _ => 0
  | p :: l, t => if p.1 = t then p.2 else wordAt l t
theorem wordAt_find (ws : List (Int × Int)) (t : Int) : ws.find? (fun p => decide (p.1 = t)) = none ∧ wordAt ws t = 0 ∨ ∃ p, ws.find? (fun p => decide (p.1 = t)) = some p ∧ wordAt ws t = p.2 := by
  induction ws with
  | nil => exact .inl ⟨rfl, rfl⟩
  | cons p l ih =>
    by_cases h : p.1 = t
    · exact .inr ⟨p, by simp [h], by simp [wordAt, h]⟩
    · simpa [wordAt, h] using ih
theorem inI_word (ws : List (Int × Int)) (n : Nat) : inI ws n = (wordAt ws ((n : Int) / 64)).toNat.testBit (n % 64) := by
  unfold inI
  rw [Nat.testBit_eq_decide_div_mod_eq]
  rcases wordAt_find ws ((n : Int) / 64) with ⟨h1, h2⟩ | ⟨p, h1, h2⟩
  · rw [h1, h2]; simp
  · rw [h1, h2]
theorem goodI_up : ∀ {ws : List (Int × Int)} {last k : Int}, last ≤ k → goodI k ws = true → goodI last ws = true
  | [], _, _, _, _ => rfl
  | p :: l, last, k, h, hg => by
    simp only [goodI, Bool.and_eq_true, decide_eq_true_eq] at hg ⊢
    exact ⟨⟨⟨by omega, hg.1.1.2⟩, hg.1.2⟩, hg.2⟩
theorem wordAt_low : ∀ {ws : List (Int × Int)} {last t : Int}, goodI last ws = true → t ≤ last → wordAt ws t = 0
  | [], _, _, _, _ => rfl
  | p :: l, last, t, hg, ht => by
    simp only [goodI, Bool.and_eq_true, decide_eq_true_eq] at hg
    have : ¬ p.1 = t := by omega
    simp only [wordAt, this, if_false]
    exact wordAt_low hg.2 (by omega)
theorem put_step {last k w : Int} {rest : List (Int × Int)} (h1 : last < k) (h2 : k < 16384) (hr : goodI k rest = true) :
    goodI last (putW k w ++ rest) = true ∧ ∀ t, wordAt (putW k w ++ rest) t = if t = k then w else wordAt rest t := by
  unfold putW
  by_cases hw : w = 0
  · simp only [hw, if_true, List.nil_append]
    refine ⟨goodI_up (by omega) hr, fun t => ?_⟩
    split
    · rename_i h; subst h; exact wordAt_low hr (Int.le_refl _)
    · rfl
  · simp only [hw, if_false, List.cons_append, List.nil_append]
    refine ⟨by simp [goodI, h1, h2, hw, hr], fun t => ?_⟩
    by_cases h : t = k
    · simp [wordAt, h]
    · simp [wordAt, h, Ne.symm h]
theorem merge_spec {f : Int → Int → Int} (h0 : f 0 0 = 0) : ∀ (a b : List (Int × Int)) (last : Int), goodI last a = true → goodI last b = true →
    goodI last (mergeW f a b) = true ∧ ∀ t, wordAt (mergeW f a b) t = f (wordAt a t) (wordAt b t)
  | [], [], last, _, _ => by simp [mergeW, goodI, wordAt, h0]
  | p :: a, [], last, ha, hb => by
    simp only [goodI, Bool.and_eq_true, decide_eq_true_eq] at ha
    obtain ⟨⟨⟨h1, h2⟩, h3⟩, h4⟩ := ha
    obtain ⟨i1, i2⟩ := merge_spec h0 a [] p.1 h4 rfl
    obtain ⟨j1, j2⟩ := put_step (w := f p.2 0) h1 h2 i1
    rw [mergeW]
    refine ⟨j1, fun t => ?_⟩
    rw [j2 t, i2 t]
    split
    · rename_i h; simp [wordAt, h]
    · rename_i h; simp [wordAt, Ne.symm h]
  | [], q :: b, last, ha, hb => by
    simp only [goodI, Bool.and_eq_true, decide_eq_true_eq] at hb
    obtain ⟨⟨⟨h1, h2⟩, h3⟩, h4⟩ := hb
    obtain ⟨i1, i2⟩ := merge_spec h0 [] b q.1 rfl h4
    obtain ⟨j1, j2⟩ := put_step (w := f 0 q.2) h1 h2 i1
    rw [mergeW]
    refine ⟨j1, fun t => ?_⟩
    rw [j2 t, i2 t]
    split
    · rename_i h; simp [wordAt, h]
    · rename_i h; simp [wordAt, Ne.symm h]
  | p :: a, q :: b, last, ha, hb => by
    have ha' := ha
    have hb' := hb
    simp only [goodI, Bool.and_eq_true, decide_eq_true_eq] at ha hb
    obtain ⟨⟨⟨h1, h2⟩, h3⟩, h4⟩ := ha
    obtain ⟨⟨⟨k1, k2⟩, k3⟩, k4⟩ := hb
    rw [mergeW]
    split
    · rename_i hlt
      have hq : goodI p.1 (q :: b) = true := by simp [goodI, hlt, k2, k3, k4]
      obtain ⟨i1, i2⟩ := merge_spec h0 a (q :: b) p.1 h4 hq
      obtain ⟨j1, j2⟩ := put_step (w := f p.2 0) h1 h2 i1
      refine ⟨j1, fun t => ?_⟩
      rw [j2 t, i2 t]
      split
      · rename_i h
        rw [h, wordAt_low hq (Int.le_refl _)]; simp [wordAt]
      · rename_i h; simp [wordAt, Ne.symm h]
    · rename_i hge
      split
      · rename_i hlt
        have hp : goodI q.1 (p :: a) = true := by simp [goodI, hlt, h2, h3, h4]
        obtain ⟨i1, i2⟩ := merge_spec h0 (p :: a) b q.1 hp k4
        obtain ⟨j1, j2⟩ := put_step (w := f 0 q.2) k1 k2 i1
        refine ⟨j1, fun t => ?_⟩
        rw [j2 t, i2 t]
        split
        · rename_i h
          rw [h, wordAt_low hp (Int.le_refl _)]; simp [wordAt]
        · rename_i h; simp [wordAt, Ne.symm h]
      · rename_i hge2
        have he : q.1 = p.1 := by omega
        obtain ⟨i1, i2⟩ := merge_spec h0 a b p.1 h4 (he ▸ k4)
        obtain ⟨j1, j2⟩ := put_step (w := f p.2 q.2) h1 h2 i1
        refine ⟨j1, fun t => ?_⟩
        rw [j2 t, i2 t]
        split
        · rename_i h; simp [wordAt, h, he]
        · rename_i h; simp [wordAt, Ne.symm h, he]
termination_by a b => a.length + b.length
theorem bits_put {t w : Int} (h : 0 ≤ w ∧ w < 18446744073709551616) : bits64 (putW t w) := by
  unfold putW
  split
  · simp [bits64]
  · intro p hp; simp at hp; subst hp; exact h
theorem bits_app {a b : List (Int × Int)} (ha : bits64 a) (hb : bits64 b) : bits64 (a ++ b) := fun p hp => (List.mem_append.1 hp).elim (ha p) (hb p)
theorem bits_cons {p : Int × Int} {l : List (Int × Int)} (h : bits64 (p :: l)) : (0 ≤ p.2 ∧ p.2 < 18446744073709551616) ∧ bits64 l := ⟨h p (by simp), fun q hq => h q (by simp [hq])⟩
theorem merge_bits {d : Nat} {f : Int → Int → Int} (hf : Joins d f) : ∀ (a b : List (Int × Int)), bits64 a → bits64 b → bits64 (mergeW f a b)
  | [], [], _, _ => by simp [mergeW, bits64]
  | p :: a, [], ha, hb => by
    rw [mergeW]
    obtain ⟨h1, h2⟩ := bits_cons ha
    exact bits_app (bits_put (hf _ _ h1.1 h1.2 (by decide) (by decide)).1) (merge_bits hf a [] h2 hb)
  | [], q :: b, ha, hb => by
    rw [mergeW]
    obtain ⟨h1, h2⟩ := bits_cons hb
    exact bits_app (bits_put (hf _ _ (by decide) (by decide) h1.1 h1.2).1) (merge_bits hf [] b ha h2)
  | p :: a, q :: b, ha, hb => by
    obtain ⟨h1, h2⟩ := bits_cons ha
    obtain ⟨k1, k2⟩ := bits_cons hb
    rw [mergeW]
    split
    · exact bits_app (bits_put (hf _ _ h1.1 h1.2 (by decide) (by decide)).1) (merge_bits hf a (q :: b) h2 hb)
    · split
      · exact bits_app (bits_put (hf _ _ (by decide) (by decide) k1.1 k1.2).1) (merge_bits hf (p :: a) b ha k2)
      · exact bits_app (bits_put (hf _ _ h1.1 h1.2 k1.1 k1.2).1) (merge_bits hf a b h2 k2)
termination_by a b => a.length + b.length
theorem in_or {a b : List (Int × Int)} (ha : goodI (-1) a = true) (hb : goodI (-1) b = true) (n : Nat) : inI (mergeW orF a b) n = (inI a n || inI b n) := by
  rw [inI_word, inI_word, inI_word, (merge_spec (f := orF) rfl a b (-1) ha hb).2]
  unfold orF
  rw [Int.toNat_natCast, Nat.testBit_or]
theorem in_and {a b : List (Int × Int)} (ha : goodI (-1) a = true) (hb : goodI (-1) b = true) (n : Nat) : inI (mergeW andF a b) n = (inI a n && inI b n) := by
  rw [inI_word, inI_word, inI_word, (merge_spec (f := andF) rfl a b (-1) ha hb).2]
  unfold andF
  rw [Int.toNat_natCast, Nat.testBit_and]
theorem in_minus {a b : List (Int × Int)} (ha : goodI (-1) a = true) (hb : goodI (-1) b = true) (n : Nat) : inI (mergeW notF a b) n = (inI a n && !inI b n) := by
  rw [inI_word, inI_word, inI_word, (merge_spec (f := notF) rfl a b (-1) ha hb).2]
  unfold notF
  rw [Int.toNat_natCast, Nat.testBit_xor, Nat.testBit_and]
  cases (wordAt a (↑n / 64)).toNat.testBit (n % 64) <;> cases (wordAt b (↑n / 64)).toNat.testBit (n % 64) <;> rfl
/-- Two sets that may be and have the same numbers are the same. -/
theorem good_ext : ∀ (a b : List (Int × Int)) (last : Int), goodI last a = true → goodI last b = true → (∀ t, wordAt a t = wordAt b t) → a = b
  | [], [], _, _, _, _ => rfl
  | p :: a, [], last, ha, _, h => by
    have := h p.1
    simp only [goodI, Bool.and_eq_true, decide_eq_true_eq] at ha
    simp [wordAt] at this
    exact absurd this ha.1.2
  | [], q :: b, last, _, hb, h => by
    have := h q.1
    simp only [goodI, Bool.and_eq_true, decide_eq_true_eq] at hb
    simp [wordAt] at this
    exact absurd this.symm hb.1.2
  | p :: a, q :: b, last, ha, hb, h => by
    have ha' := ha
    have hb' := hb
    simp only [goodI, Bool.and_eq_true, decide_eq_true_eq] at ha hb
    obtain ⟨⟨⟨h1, h2⟩, h3⟩, h4⟩ := ha
    obtain ⟨⟨⟨k1, k2⟩, k3⟩, k4⟩ := hb
    have hk : p.1 = q.1 := by
      rcases Int.lt_trichotomy p.1 q.1 with hlt | he | hlt
      · have := h p.1
        rw [wordAt_low (show goodI p.1 (q :: b) = true by simp [goodI, hlt, k2, k3, k4]) (Int.le_refl _)] at this
        simp [wordAt] at this
        exact absurd this h3
      · exact he
      · have := h q.1
        rw [wordAt_low (show goodI q.1 (p :: a) = true by simp [goodI, hlt, h2, h3, h4]) (Int.le_refl _)] at this
        simp [wordAt] at this
        exact absurd this.symm k3
    have hv : p.2 = q.2 := by
      have := h p.1
      simp [wordAt, hk] at this
      exact this
    have hpq : p = q := Prod.ext hk hv
    subst hpq
    congr 1
    refine good_ext a b p.1 h4 k4 fun t => ?_
    by_cases ht : p.1 = t
    · rw [wordAt_low h4 (by omega), wordAt_low k4 (by omega)]
    · have := h t
      simpa [wordAt, ht] using this
theorem word_ext {a b : List (Int × Int)} (ha : bits64 a) (hb : bits64 b) (hga : goodI (-1) a = true) (hgb : goodI (-1) b = true) (h : ∀ n, inI a n = inI b n) : a = b := by
  refine good_ext a b (-1) hga hgb fun t => ?_
  have rng : ∀ (ws : List (Int × Int)), bits64 ws → 0 ≤ wordAt ws t ∧ wordAt ws t < 18446744073709551616 := by
    intro ws hw
    rcases wordAt_find ws t with ⟨_, h⟩ | ⟨p, h1, h2⟩
    · rw [h]; decide
    · rw [h2]; exact hw p (List.mem_of_find?_eq_some h1)
  have ra := rng a ha
  have rb := rng b hb
  by_cases ht : t < 0
  · rw [wordAt_low hga (by omega), wordAt_low hgb (by omega)]
  · have : (wordAt a t).toNat = (wordAt b t).toNat := by
      apply Nat.eq_of_testBit_eq
      intro i
      by_cases hi : i < 64
      · have := h (64 * t.toNat + i)
        rw [inI_word, inI_word] at this
        have e1 : ((64 * t.toNat + i : Nat) : Int) / 64 = t := by omega
        have e2 : (64 * t.toNat + i) % 64 = i := by omega
        rwa [e1, e2] at this
      · rw [Nat.testBit_lt_two_pow (Nat.lt_of_lt_of_le (m := 2 ^ 64) (by omega) (Nat.pow_le_pow_right (by decide) (by omega))), Nat.testBit_lt_two_pow (Nat.lt_of_lt_of_le (m := 2 ^ 64) (by omega) (Nat.pow_le_pow_right (by decide) (by omega)))]
    omega
end Go.Proofs.YtjcgaelibiiiiaaDoor
namespace Go.Proofs.YtjcgaelibiiiiaaDoor
open Go.Abs
theorem good_or {a b : List (Int × Int)} (ha : goodI (-1) a = true) (hb : goodI (-1) b = true) : goodI (-1) (mergeW orF a b) = true := (merge_spec (f := orF) rfl a b (-1) ha hb).1
theorem good_and {a b : List (Int × Int)} (ha : goodI (-1) a = true) (hb : goodI (-1) b = true) : goodI (-1) (mergeW andF a b) = true := (merge_spec (f := andF) rfl a b (-1) ha hb).1
theorem good_minus {a b : List (Int × Int)} (ha : goodI (-1) a = true) (hb : goodI (-1) b = true) : goodI (-1) (mergeW notF a b) = true := (merge_spec (f := notF) rfl a b (-1) ha hb).1
theorem lt63 {n : Nat} (h : n ≤ 20000) : n < 2 ^ 63 := by omega
theorem len_and {a b : List (Int × Int)} (ha : goodI (-1) a = true) (hb : goodI (-1) b = true) : (mergeW andF a b).length ≤ 20000 := Nat.le_trans (good_len (good_and ha hb)) (by decide)
theorem len_not {a b : List (Int × Int)} (ha : goodI (-1) a = true) (hb : goodI (-1) b = true) : (mergeW notF a b).length ≤ 20000 := Nat.le_trans (good_len (good_minus ha hb)) (by decide)
theorem len_or {a b : List (Int × Int)} (ha : goodI (-1) a = true) (hb : goodI (-1) b = true) : (mergeW orF a b).length ≤ 20000 := Nat.le_trans (good_len (good_or ha hb)) (by decide)
section
variable {a b c : List (Int × Int)}
theorem law_comm (ha : bits64 a) (hb : bits64 b) (hga : goodI (-1) a = true) (hgb : goodI (-1) b = true) : mergeW orF a b = mergeW orF b a :=
  word_ext (merge_bits joins_Or a b ha hb) (merge_bits joins_Or b a hb ha) (good_or hga hgb) (good_or hgb hga) fun n => by rw [in_or hga hgb, in_or hgb hga, Bool.or_comm]
theorem law_assoc (ha : bits64 a) (hb : bits64 b) (hc : bits64 c) (hga : goodI (-1) a = true) (hgb : goodI (-1) b = true) (hgc : goodI (-1) c = true) : mergeW orF (mergeW orF a b) c = mergeW orF a (mergeW orF b c) :=
  word_ext (merge_bits joins_Or _ _ (merge_bits joins_Or a b ha hb) hc) (merge_bits joins_Or _ _ ha (merge_bits joins_Or b c hb hc)) (good_or (good_or hga hgb) hgc) (good_or hga (good_or hgb hgc)) fun n => by
    rw [in_or (good_or hga hgb) hgc, in_or hga (good_or hgb hgc), in_or hga hgb, in_or hgb hgc, Bool.or_assoc]
theorem law_dist (ha : bits64 a) (hb : bits64 b) (hc : bits64 c) (hga : goodI (-1) a = true) (hgb : goodI (-1) b = true) (hgc : goodI (-1) c = true) : mergeW andF a (mergeW orF b c) = mergeW orF (mergeW andF a b) (mergeW andF a c) :=
  word_ext (merge_bits joins_And _ _ ha (merge_bits joins_Or b c hb hc)) (merge_bits joins_Or _ _ (merge_bits joins_And a b ha hb) (merge_bits joins_And a c ha hc)) (good_and hga (good_or hgb hgc)) (good_or (good_and hga hgb) (good_and hga hgc)) fun n => by
    rw [in_and hga (good_or hgb hgc), in_or hgb hgc, in_or (good_and hga hgb) (good_and hga hgc), in_and hga hgb, in_and hga hgc, Bool.and_or_distrib_left]
theorem law_minus (ha : bits64 a) (hb : bits64 b) (hga : goodI (-1) a = true) (hgb : goodI (-1) b = true) : mergeW notF a b = mergeW notF a (mergeW andF a b) :=
  word_ext (merge_bits joins_Minus _ _ ha hb) (merge_bits joins_Minus _ _ ha (merge_bits joins_And a b ha hb)) (good_minus hga hgb) (good_minus hga (good_and hga hgb)) fun n => by
    rw [in_minus hga hgb, in_minus hga (good_and hga hgb), in_and hga hgb]
    cases inI a n <;> cases inI b n <;> rfl
theorem law_whole (ha : bits64 a) (hb : bits64 b) (hga : goodI (-1) a = true) (hgb : goodI (-1) b = true) : mergeW orF (mergeW notF a b) (mergeW andF a b) = a :=
  word_ext (merge_bits joins_Or _ _ (merge_bits joins_Minus a b ha hb) (merge_bits joins_And a b ha hb)) ha (good_or (good_minus hga hgb) (good_and hga hgb)) hga fun n => by
    rw [in_or (good_minus hga hgb) (good_and hga hgb), in_minus hga hgb, in_and hga hgb]
    cases inI a n <;> cases inI b n <;> rfl
end
theorem or_div2 (x y : Nat) : (x ||| y) / 2 = (x / 2) ||| (y / 2) := by
  apply Nat.eq_of_testBit_eq
  intro i
  simp only [Nat.testBit_div_two, Nat.testBit_or]
theorem or_and_mod2 (x y : Nat) : (x ||| y) % 2 + (x &&& y) % 2 = x % 2 + y % 2 := by
  have h := Nat.testBit_or x y 0
  have k := Nat.testBit_and x y 0
  simp only [Nat.testBit_zero] at h k
  rcases Nat.mod_two_eq_zero_or_one x with ha | ha <;> rcases Nat.mod_two_eq_zero_or_one y with hb | hb <;> rcases Nat.mod_two_eq_zero_or_one (x ||| y) with hc | hc <;> rcases Nat.mod_two_eq_zero_or_one (x &&& y) with hd | hd <;> simp [ha, hb, hc, hd] at h k ⊢
theorem digs_or_and : ∀ f x y, digs 2 f (x ||| y) + digs 2 f (x &&& y) = digs 2 f x + digs 2 f y
  | 0, _, _ => rfl
  | f + 1, x, y => by
    rw [digs_succ, digs_succ, digs_succ, digs_succ, or_div2, Abs.and_div2]
    have := digs_or_and f (x / 2) (y / 2)
    have := or_and_mod2 x y
    omega
theorem popI_digs (x : Int) : popI x = digs 2 64 x.toNat := (digs_bits 64 0 x.toNat).symm
theorem pop_or_and (x y : Int) : popI (orF x y) + popI (andF x y) = popI x + popI y := by
  rw [popI_digs, popI_digs, popI_digs, popI_digs]
  unfold orF andF
  rw [Int.toNat_natCast, Int.toNat_natCast]
  exact digs_or_and 64 _ _
theorem popI_zero : popI 0 = 0 := by rw [popI_digs]; rfl
theorem sizeI_cons (p : Int × Int) (l : List (Int × Int)) : sizeI (p :: l) = popI p.2 + sizeI l := by
  unfold sizeI natW
  rw [List.map_cons]
  show (numsA ((p.1.toNat, p.2.toNat) :: _)).length = _
  unfold numsA
  rw [List.flatMap_cons, List.length_append]
  simp [numsW, popI]
theorem sizeI_put (t w : Int) (l : List (Int × Int)) : sizeI (putW t w ++ l) = popI w + sizeI l := by
  unfold putW
  split
  · rename_i h; subst h; rw [popI_zero]; simp
  · rw [List.cons_append, List.nil_append, sizeI_cons]
theorem size_merge : ∀ (a b : List (Int × Int)), sizeI (mergeW orF a b) + sizeI (mergeW andF a b) = sizeI a + sizeI b
  | [], [] => by simp [mergeW]
  | p :: a, [] => by
    have := size_merge a []
    rw [mergeW, mergeW, sizeI_put, sizeI_put, sizeI_cons]
    have h := pop_or_and p.2 0
    rw [popI_zero] at h
    omega
  | [], q :: b => by
    have := size_merge [] b
    rw [mergeW, mergeW, sizeI_put, sizeI_put, sizeI_cons]
    have h := pop_or_and 0 q.2
    rw [popI_zero] at h
    omega
  | p :: a, q :: b => by
    rw [mergeW, mergeW]
    split
    · have := size_merge a (q :: b)
      rw [sizeI_put, sizeI_put, sizeI_cons p a]
      have h := pop_or_and p.2 0
      rw [popI_zero] at h
      omega
    · split
      · have := size_merge (p :: a) b
        rw [sizeI_put, sizeI_put, sizeI_cons q b]
        have h := pop_or_and 0 q.2
        rw [popI_zero] at h
        omega
      · have := size_merge a b
        rw [sizeI_put, sizeI_put, sizeI_cons p a, sizeI_cons q b]
        have h := pop_or_and p.2 q.2
        omega
termination_by a b => a.length + b.length
theorem sizeI_le' (ws : List (Int × Int)) : sizeI ws ≤ 64 * ws.length := by
  have := numsA_len (natW ws)
  rw [natW_len] at this
  exact this
end Go.Proofs.YtjcgaelibiiiiaaDoor
