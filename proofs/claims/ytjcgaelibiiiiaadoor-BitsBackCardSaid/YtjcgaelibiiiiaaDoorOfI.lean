/-
  A set made of numbers, and a set's numbers: plain Lean, of no program. By this seat's session.
-/
import Derived.Test.YtjcgaelibiiiiaaDoorW6
set_option linter.unusedVariables false
namespace Go.Proofs.YtjcgaelibiiiiaaDoor
open Go.Abs
theorem goodI_snoc {k w : Int} : ∀ {pre : List (Int × Int)} {last : Int}, goodI last (pre ++ [(k, w)]) = true ↔ goodI last pre = true ∧ (∀ q ∈ pre, q.1 < k) ∧ last < k ∧ k < 16384 ∧ w ≠ 0
  | [], last => by simp [goodI, and_assoc]
  | (a, b) :: l, last => by
    have ih := goodI_snoc (k := k) (w := w) (pre := l) (last := a)
    simp only [List.cons_append, goodI, Bool.and_eq_true, decide_eq_true_eq, ih, List.mem_cons, forall_eq_or_imp]
    constructor
    · rintro ⟨⟨⟨h1, h2⟩, h3⟩, h4, h5, h6, h7, h8⟩
      exact ⟨⟨⟨⟨h1, h2⟩, h3⟩, h4⟩, ⟨h6, h5⟩, by omega, h7, h8⟩
    · rintro ⟨⟨⟨⟨h1, h2⟩, h3⟩, h4⟩, ⟨h6, h5⟩, _, h7, h8⟩
      exact ⟨⟨⟨h1, h2⟩, h3⟩, h4, h5, h6, h7, h8⟩
theorem wordAt_snoc {k w t : Int} : ∀ {pre : List (Int × Int)}, (∀ q ∈ pre, q.1 < k) → wordAt (pre ++ [(k, w)]) t = if t = k then w else wordAt pre t
  | [], _ => by
    simp only [List.nil_append, wordAt]
    by_cases h : k = t
    · rw [if_pos h, if_pos h.symm]
    · rw [if_neg h, if_neg (fun e => h e.symm)]
  | q :: l, h => by
    have ih := wordAt_snoc (k := k) (w := w) (t := t) (pre := l) fun r hr => h r (by simp [hr])
    have hq := h q (by simp)
    simp only [List.cons_append, wordAt, ih]
    by_cases h1 : q.1 = t
    · rw [if_pos h1, if_pos h1, if_neg (by omega)]
    · rw [if_neg h1, if_neg h1]
theorem wordAt_none {t : Int} : ∀ {pre : List (Int × Int)}, (∀ q ∈ pre, q.1 < t) → wordAt pre t = 0
  | [], _ => rfl
  | q :: l, h => by
    have := h q (by simp)
    simp only [wordAt]
    rw [if_neg (by omega)]
    exact wordAt_none fun r hr => h r (by simp [hr])
/-- One number more: what it makes of the words. -/
theorem of_form {acc : List (Int × Int)} {n top : Int} (hg : goodI (-1) acc = true) (ht : ∀ q ∈ acc, q.1 ≤ top / 64) (hn : top ≤ n) :
    ∃ pre w, ofStep acc n = pre ++ [(n / 64, ((w.toNat ||| 2 ^ (n % 64).toNat : Nat) : Int))] ∧ (∀ q ∈ pre, q.1 < n / 64) ∧ goodI (-1) pre = true ∧ (∀ t, wordAt acc t = if t = n / 64 then w else wordAt pre t) := by
  have key : ∀ pre w, growI acc n = pre ++ [(n / 64, w)] → ofStep acc n = pre ++ [(n / 64, ((w.toNat ||| 2 ^ (n % 64).toNat : Nat) : Int))] := by
    intro pre w h
    unfold ofStep
    rw [h]
    simp
  have hd : top / 64 ≤ n / 64 := by omega
  rcases List.eq_nil_or_concat acc with rfl | ⟨pre, ⟨k, w⟩, rfl⟩
  · refine ⟨[], 0, key [] 0 (by simp [growI]), by simp, rfl, fun t => by simp [wordAt]⟩
  · rw [List.concat_eq_append] at hg ht key ⊢
    obtain ⟨h1, h2, h3, h4, h5⟩ := goodI_snoc.1 hg
    have hk : k ≤ n / 64 := Int.le_trans (ht (k, w) (by simp)) hd
    by_cases he : k = n / 64
    · subst he
      refine ⟨pre, w, key pre w ?_, h2, h1, fun t => wordAt_snoc h2⟩
      unfold growI
      rw [if_pos ⟨by simp, by simp⟩]
    · have hlt : ∀ q ∈ pre ++ [(k, w)], q.1 < n / 64 := by
        intro q hq
        rcases List.mem_append.1 hq with hq | hq
        · have := h2 q hq; omega
        · simp at hq; subst hq; show k < _; omega
      refine ⟨pre ++ [(k, w)], 0, key _ 0 ?_, hlt, hg, fun t => ?_⟩
      · unfold growI
        rw [if_neg]
        rintro ⟨_, h⟩
        simp at h
        exact he h
      · by_cases h : t = n / 64
        · rw [if_pos h, h, wordAt_none hlt]
        · rw [if_neg h]
/-- What the words of numbers that rise are, as far as they go. -/
structure OfInv (p : List Int) (acc : List (Int × Int)) : Prop where
  good : goodI (-1) acc = true
  bits : bits64 acc
  mem : ∀ m : Nat, inI acc m = decide ((m : Int) ∈ p)
theorem of_step {p : List Int} {acc : List (Int × Int)} {n top : Int} (h : OfInv p acc) (ht : ∀ q ∈ acc, q.1 ≤ top / 64) (hn : top ≤ n) (h0 : 0 ≤ n) (h1 : n < 1048576) :
    OfInv (p ++ [n]) (ofStep acc n) ∧ ∀ q ∈ ofStep acc n, q.1 ≤ n / 64 := by
  obtain ⟨pre, w, e, h2, h3, h4⟩ := of_form h.good ht hn
  refine ⟨⟨?_, ofStep_bits h0 h.bits, fun m => ?_⟩, ?_⟩
  · rw [e, goodI_snoc]
    refine ⟨h3, h2, by omega, by omega, ?_⟩
    intro hz
    have hz : (w.toNat ||| 2 ^ (n % 64).toNat) = 0 := by exact_mod_cast hz
    have := congrArg (fun x => x.testBit (n % 64).toNat) hz
    simp at this
  · have hm := h.mem m
    rw [inI_word, h4] at hm
    rw [inI_word, e, wordAt_snoc h2]
    by_cases hb : (m : Int) / 64 = n / 64
    · rw [if_pos hb] at hm ⊢
      rw [Int.toNat_natCast, Nat.testBit_or, hm, Nat.testBit_two_pow]
      simp only [List.mem_append, List.mem_singleton, Bool.decide_or]
      congr 1
      rw [decide_eq_decide]
      omega
    · rw [if_neg hb] at hm ⊢
      rw [hm, decide_eq_decide, List.mem_append, List.mem_singleton]
      constructor
      · exact .inl
      · rintro (h | h)
        · exact h
        · rw [h] at hb; exact absurd rfl hb
  · intro q hq
    rw [e] at hq
    rcases List.mem_append.1 hq with hq | hq
    · have := h2 q hq; omega
    · simp at hq; subst hq; exact Int.le_refl _
theorem of_fold : ∀ (l p : List Int) (acc : List (Int × Int)) (top : Int), OfInv p acc → (∀ q ∈ acc, q.1 ≤ top / 64) → (∀ n ∈ l, top ≤ n) → l.Pairwise (· ≤ ·) → (∀ n ∈ l, 0 ≤ n ∧ n < 1048576) → OfInv (p ++ l) (l.foldl ofStep acc)
  | [], p, acc, top, h, _, _, _, _ => by simpa using h
  | n :: l, p, acc, top, h, ht, hn, hp, hr => by
    obtain ⟨h1, h2⟩ := of_step h ht (hn n (by simp)) (hr n (by simp)).1 (hr n (by simp)).2
    rw [List.pairwise_cons] at hp
    have := of_fold l (p ++ [n]) (ofStep acc n) n h1 h2 hp.1 hp.2 fun m hm => hr m (by simp [hm])
    rw [List.append_assoc] at this
    exact this
theorem all_within {l : List Int} (h : l.all withinI = true) : ∀ n ∈ l, 0 ≤ n ∧ n < 1048576 := fun n hn => by
  have := List.all_eq_true.1 h n hn
  simpa [withinI] using this
theorem of_inv {l : List Int} (h : l.all withinI = true) : OfInv (sortI l) (ofI l) := by
  have hr : ∀ n ∈ sortI l, 0 ≤ n ∧ n < 1048576 := fun n hn => all_within h n ((sortI_perm l).mem_iff.1 hn)
  have := of_fold (sortI l) [] [] 0 ⟨rfl, fun _ h => absurd h (by simp), fun m => by simp [inI]⟩ (by simp) (fun n hn => (hr n hn).1) (sortI_sorted l) hr
  rw [List.nil_append] at this
  exact this
theorem in_of {l : List Int} (h : l.all withinI = true) (m : Nat) : inI (ofI l) m = decide ((m : Int) ∈ l) := by
  rw [(of_inv h).mem m, decide_eq_decide]
  exact (sortI_perm l).mem_iff
theorem mem_bitsL : ∀ (f n x k : Nat), k ∈ Abs.bitsL f n x ↔ n ≤ k ∧ k < n + f ∧ x.testBit (k - n) = true
  | 0, n, x, k => by simp [Abs.bitsL]; omega
  | f + 1, n, x, k => by
    have ih := mem_bitsL f (n + 1) (x / 2) k
    have hb : n + 1 ≤ k → (x / 2).testBit (k - (n + 1)) = x.testBit (k - n) := fun h => by
      rw [show k - n = (k - (n + 1)) + 1 by omega, Nat.testBit_succ]
    have h0 : x.testBit 0 = decide (x % 2 = 1) := Nat.testBit_zero x
    simp only [Abs.bitsL]
    split
    · rename_i h
      rw [List.mem_cons, ih]
      constructor
      · rintro (rfl | ⟨h1, h2, h3⟩)
        · exact ⟨Nat.le_refl _, by omega, by rw [Nat.sub_self, h0, decide_eq_true h]⟩
        · exact ⟨by omega, by omega, by rw [← hb h1]; exact h3⟩
      · rintro ⟨h1, h2, h3⟩
        rcases Nat.eq_or_lt_of_le h1 with h4 | h4
        · exact .inl h4.symm
        · exact .inr ⟨h4, by omega, by rw [hb h4]; exact h3⟩
    · rename_i h
      rw [ih]
      constructor
      · rintro ⟨h1, h2, h3⟩
        exact ⟨by omega, by omega, by rw [← hb h1]; exact h3⟩
      · rintro ⟨h1, h2, h3⟩
        rcases Nat.eq_or_lt_of_le h1 with h4 | h4
        · subst h4
          rw [Nat.sub_self, h0, decide_eq_false h] at h3
          cases h3
        · exact ⟨h4, by omega, by rw [hb h4]; exact h3⟩
theorem bitsL_rises : ∀ (f n x : Nat), (Abs.bitsL f n x).Pairwise (· < ·)
  | 0, n, x => by simp [Abs.bitsL]
  | f + 1, n, x => by
    have ih := bitsL_rises f (n + 1) (x / 2)
    simp only [Abs.bitsL]
    split
    · refine List.pairwise_cons.2 ⟨fun k hk => ?_, ih⟩
      have := (mem_bitsL f (n + 1) (x / 2) k).1 hk
      omega
    · exact ih
theorem mem_numsW {a : Int} {r : Nat} {z : Int} (h : 0 ≤ a) : z ∈ numsW a.toNat r ↔ z / 64 = a ∧ r.testBit (z % 64).toNat = true := by
  unfold numsW
  simp only [List.mem_map, mem_bitsL]
  constructor
  · rintro ⟨k, ⟨_, h1, h2⟩, rfl⟩
    refine ⟨by omega, ?_⟩
    rw [show (((64 * a.toNat + k : Nat) : Int) % 64).toNat = k - 0 by omega]
    exact h2
  · rintro ⟨h1, h2⟩
    exact ⟨(z % 64).toNat, ⟨by omega, by omega, h2⟩, by omega⟩
theorem nums_all : ∀ {ws : List (Int × Int)} {last : Int}, -1 ≤ last → goodI last ws = true →
    (∀ z, z ∈ numsA (natW ws) ↔ (wordAt ws (z / 64)).toNat.testBit (z % 64).toNat = true) ∧ (∀ z ∈ numsA (natW ws), last < z / 64 ∧ z / 64 < 16384) ∧ (numsA (natW ws)).Pairwise (· < ·)
  | [], last, _, _ => by
    refine ⟨fun z => ?_, ?_, ?_⟩ <;> simp [numsA, natW, wordAt]
  | (a, b) :: l, last, hl, hg => by
    simp only [goodI, Bool.and_eq_true, decide_eq_true_eq] at hg
    obtain ⟨⟨⟨h1, h2⟩, h3⟩, h4⟩ := hg
    obtain ⟨i1, i2, i3⟩ := nums_all (ws := l) (last := a) (by omega) h4
    have e : numsA (natW ((a, b) :: l)) = numsW a.toNat b.toNat ++ numsA (natW l) := by simp [numsA, natW]
    rw [e]
    have ha : 0 ≤ a := by omega
    refine ⟨fun z => ?_, fun z hz => ?_, ?_⟩
    · rw [List.mem_append, mem_numsW ha, i1]
      simp only [wordAt]
      by_cases h : a = z / 64
      · rw [if_pos h]
        have := wordAt_low h4 (t := z / 64) (by omega)
        rw [this]
        simp [h]
      · rw [if_neg h]
        constructor
        · rintro (⟨h', _⟩ | h')
          · exact absurd h'.symm h
          · exact h'
        · exact .inr
    · rcases List.mem_append.1 hz with hz | hz
      · have := (mem_numsW ha).1 hz
        omega
      · have := i2 z hz
        omega
    · refine List.pairwise_append.2 ⟨?_, i3, fun x hx y hy => ?_⟩
      · unfold numsW
        refine List.Pairwise.map _ (fun x y h => ?_) (bitsL_rises 64 0 b.toNat)
        omega
      · have := (mem_numsW ha).1 hx
        have := i2 y hy
        omega
theorem mem_list {ws : List (Int × Int)} (hg : goodI (-1) ws = true) (z : Int) : z ∈ listI ws ↔ 0 ≤ z ∧ inI ws z.toNat = true := by
  obtain ⟨h1, h2, _⟩ := nums_all (by omega) hg
  unfold listI
  rw [if_pos hg]
  constructor
  · intro h
    have h0 : 0 ≤ z := by have := h2 z h; omega
    refine ⟨h0, ?_⟩
    rw [inI_word, show ((z.toNat : Nat) : Int) = z by omega, show z.toNat % 64 = (z % 64).toNat by omega]
    exact (h1 z).1 h
  · rintro ⟨h0, h⟩
    rw [inI_word, show ((z.toNat : Nat) : Int) = z by omega, show z.toNat % 64 = (z % 64).toNat by omega] at h
    exact (h1 z).2 h
theorem list_rises {ws : List (Int × Int)} (hg : goodI (-1) ws = true) : (listI ws).Pairwise (· < ·) := by
  unfold listI
  rw [if_pos hg]
  exact (nums_all (by omega) hg).2.2
theorem list_within {ws : List (Int × Int)} (hg : goodI (-1) ws = true) : (listI ws).all withinI = true := by
  rw [List.all_eq_true]
  intro z hz
  unfold listI at hz
  rw [if_pos hg] at hz
  have := (nums_all (by omega) hg).2.1 z hz
  simp only [withinI, Bool.and_eq_true, decide_eq_true_eq]
  omega
/-- Of numbers one of which may not be, none. -/
def ofA (l : List Int) : List (Int × Int) := if l.all withinI then ofI l else []
theorem of_list {ws : List (Int × Int)} (hg : goodI (-1) ws = true) (hb : bits64 ws) : ofA (listI ws) = ws := by
  have hw := list_within hg
  unfold ofA
  rw [if_pos hw]
  refine word_ext (of_inv hw).bits hb (of_inv hw).good hg fun n => ?_
  rw [in_of hw, Bool.eq_iff_iff, decide_eq_true_eq, mem_list hg]
  constructor
  · rintro ⟨_, h⟩; simpa using h
  · intro h; exact ⟨by omega, by simpa using h⟩
end Go.Proofs.YtjcgaelibiiiiaaDoor
