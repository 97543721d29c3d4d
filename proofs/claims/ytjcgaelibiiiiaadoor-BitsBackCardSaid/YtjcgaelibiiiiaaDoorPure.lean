/-
  Sets as lists of words: what the functions on them answer. Plain Lean, of no program. By this seat's session.
-/
import Derived.Test.YtjcgaelibiiiiaaDoorFacts
import Derived.Test.YtjcgaelibiiiiaaDoorAbsAuto
set_option linter.unusedVariables false
namespace Go.Proofs.YtjcgaelibiiiiaaDoor
open Go.Abs
/-- Each word may be, and stands above the one ahead. -/
def mayAt (ws : List (Int × Int)) (i : Nat) : Prop := ∀ p, ws[i]? = some p → 0 ≤ p.1 ∧ p.1 < 16384 ∧ p.2 ≠ 0 ∧ ∀ q, 0 < i → ws[i - 1]? = some q → q.1 < p.1
theorem goodI_gen : ∀ (ws : List (Int × Int)) (last : Int), -1 ≤ last → (goodI last ws = true ↔ (∀ i, mayAt ws i) ∧ ∀ p, ws[0]? = some p → last < p.1)
  | [], last, _ => by simp [goodI, mayAt]
  | p :: l, last, hl => by
    unfold goodI
    simp only [Bool.and_eq_true, decide_eq_true_eq]
    constructor
    · rintro ⟨⟨⟨h1, h2⟩, h3⟩, h4⟩
      obtain ⟨h5, h6⟩ := (goodI_gen l p.1 (by omega)).1 h4
      refine ⟨fun i q hq => ?_, fun q hq => by simp at hq; subst hq; exact h1⟩
      cases i with
      | zero => simp at hq; subst hq; exact ⟨by omega, h2, h3, fun _ h => absurd h (by omega)⟩
      | succ i =>
        simp only [List.getElem?_cons_succ] at hq
        obtain ⟨a, b, c, d⟩ := h5 i q hq
        refine ⟨a, b, c, fun r _ hr => ?_⟩
        cases i with
        | zero => simp at hr; subst hr; exact h6 q hq
        | succ i => exact d r (by omega) (by simpa using hr)
    · rintro ⟨h1, h2⟩
      obtain ⟨a, b, c, _⟩ := h1 0 p rfl
      refine ⟨⟨⟨h2 p rfl, b⟩, c⟩, (goodI_gen l p.1 (by omega)).2 ⟨fun i q hq => ?_, fun q hq => ?_⟩⟩
      · obtain ⟨a', b', c', d'⟩ := h1 (i + 1) q (by simpa using hq)
        exact ⟨a', b', c', fun r hi hr => d' r (by omega) (by cases i with | zero => omega | succ i => simpa using hr)⟩
      · exact (h1 1 q (by simpa using hq)).2.2.2 p (by omega) rfl
theorem goodI_iff (ws : List (Int × Int)) : goodI (-1) ws = true ↔ ∀ i, mayAt ws i := by
  rw [goodI_gen ws (-1) (by omega)]
  exact ⟨fun h => h.1, fun h => ⟨h, fun p hp => by have := (h 0 p hp).1; omega⟩⟩
theorem goodI_false {ws : List (Int × Int)} {i : Nat} (h : ¬ mayAt ws i) : goodI (-1) ws = false := by
  cases hg : goodI (-1) ws with
  | false => rfl
  | true => exact absurd ((goodI_iff ws).1 hg i) h
theorem goodI_all {ws : List (Int × Int)} (h : ∀ i, i < ws.length → mayAt ws i) : goodI (-1) ws = true := by
  refine (goodI_iff ws).2 fun i => ?_
  by_cases hi : i < ws.length
  · exact h i hi
  · intro p hp; rw [List.getElem?_eq_none (by omega)] at hp; cases hp
theorem mayAt_lt {ws : List (Int × Int)} (h : ∀ i, mayAt ws i) : ∀ (d i : Nat) (hi : i + d + 1 < ws.length), (ws[i]'(by omega)).1 < (ws[i + d + 1]).1
  | 0, i, hi => (h (i + 1) _ (List.getElem?_eq_getElem hi)).2.2.2 _ (by omega) (by simp [show i < ws.length by omega])
  | d + 1, i, hi => by
    have h1 := mayAt_lt h d i (by omega)
    have h2 := (h (i + d + 1 + 1) _ (List.getElem?_eq_getElem hi)).2.2.2 (ws[i + d + 1]'(by omega)) (by omega) (by simp [show i + d + 1 < ws.length by omega])
    exact Int.lt_trans h1 h2
theorem good_mono {ws : List (Int × Int)} (h : goodI (-1) ws = true) {i j : Nat} (hij : i < j) (hj : j < ws.length) : (ws[i]'(by omega)).1 < ws[j].1 := by
  obtain ⟨d, rfl⟩ : ∃ d, j = i + d + 1 := ⟨j - i - 1, by omega⟩
  exact mayAt_lt ((goodI_iff ws).1 h) d i hj
theorem good_at {ws : List (Int × Int)} (h : goodI (-1) ws = true) {i : Nat} (hi : i < ws.length) : 0 ≤ ws[i].1 ∧ ws[i].1 < 16384 ∧ ws[i].2 ≠ 0 := by
  obtain ⟨a, b, c, _⟩ := (goodI_iff ws).1 h i _ (List.getElem?_eq_getElem hi)
  exact ⟨a, b, c⟩
theorem good_len {ws : List (Int × Int)} (h : goodI (-1) ws = true) : ws.length ≤ 16384 := by
  have key : ∀ i (hi : i < ws.length), (i : Int) ≤ ws[i].1 := by
    intro i
    induction i with
    | zero => intro hi; have := (good_at h hi).1; simpa using this
    | succ i ih => intro hi; have := ih (by omega); have := good_mono h (Nat.lt_succ_self i) hi; simp only [Nat.succ_eq_add_one] at *; omega
  rcases Nat.eq_zero_or_pos ws.length with h0 | h0
  · omega
  · have h1 := key (ws.length - 1) (by omega)
    have h2 := (good_at h (i := ws.length - 1) (by omega)).2.1
    omega
/-- The words' bits are 64 each. -/
def bits64 (ws : List (Int × Int)) : Prop := ∀ p ∈ ws, 0 ≤ p.2 ∧ p.2 < 18446744073709551616
def intsL (l : List Int) : List (List AVal) := l.map fun z => [.raw (.int .i64 z)]
@[simp] theorem intsL_length (l : List Int) : (intsL l).length = l.length := by simp [intsL]
theorem intsL_append (a b : List Int) : intsL (a ++ b) = intsL a ++ intsL b := by simp [intsL]
theorem natW_take_succ {ws : List (Int × Int)} {i : Nat} (h : i < ws.length) : numsA (natW (ws.take (i + 1))) = numsA (natW (ws.take i)) ++ numsW ws[i].1.toNat ws[i].2.toNat := by
  rw [List.take_add_one, List.getElem?_eq_getElem h]
  show numsA (natW (ws.take i ++ [ws[i]])) = _
  unfold natW numsA
  rw [List.map_append, List.flatMap_append]
  simp
theorem bitsL_len : ∀ f n x, (Abs.bitsL f n x).length ≤ f
  | 0, n, x => by simp [Abs.bitsL]
  | f + 1, n, x => by unfold Abs.bitsL; (split; (simp only [List.length_cons]; have := bitsL_len f (n + 1) (x / 2); omega); (have := bitsL_len f (n + 1) (x / 2); omega))
theorem numsA_len (l : List (Nat × Nat)) : (numsA l).length ≤ 64 * l.length := by
  induction l with
  | nil => simp [numsA]
  | cons p l ih =>
    have h3 : numsA (p :: l) = numsW p.1 p.2 ++ numsA l := by simp [numsA]
    rw [h3, List.length_append, List.length_cons]
    have := bitsL_len 64 0 p.2
    have : (numsW p.1 p.2).length ≤ 64 := by simpa [numsW] using this
    omega
/-- A word's ones from a place on, as numbers. -/
def numsF (a : Int) (f n x : Nat) : List Int := (Abs.bitsL f n x).map fun (k : Nat) => 64 * a + (k : Int)
theorem numsW_F {a : Int} (h : 0 ≤ a) (r : Nat) : numsW a.toNat r = numsF a 64 0 r := by
  unfold numsW numsF
  refine List.map_congr_left fun k _ => ?_
  omega
theorem numsF_zero (a : Int) (n x : Nat) : numsF a 0 n x = [] := rfl
theorem numsF_step (a : Int) (f n x : Nat) : numsF a (f + 1) n x = if x % 2 = 1 then (64 * a + (n : Int)) :: numsF a f (n + 1) (x / 2) else numsF a f (n + 1) (x / 2) := by
  simp only [numsF, Abs.bitsL]
  split <;> rfl
/-- Is a number among those of a set? -/
def inI (ws : List (Int × Int)) (n : Nat) : Bool := match ws.find? (fun p => decide (p.1 = (n : Int) / 64)) with
  | some p => decide (p.2.toNat / 2 ^ (n % 64) % 2 = 1)
  | none => false
def popI (r : Int) : Nat := (Abs.bitsL 64 0 r.toNat).length
end Go.Proofs.YtjcgaelibiiiiaaDoor
namespace Go.Proofs.YtjcgaelibiiiiaaDoor
open Go.Abs
theorem wrap_dbl {i : Nat} (h : i < 63) : IntKind.u64.wrap (2 * 2 ^ i : Int) = 2 ^ (i + 1) := by
  have h1 : (2 : Nat) ^ (i + 1) ≤ 2 ^ 63 := Nat.pow_le_pow_right (by decide) (by omega)
  have h2 : (2 * 2 ^ i : Int) = ((2 ^ (i + 1) : Nat) : Int) := by rw [Nat.pow_succ]; simp [Int.mul_comm]
  rw [h2, wrap_u64 (Int.natCast_nonneg _) (Int.ofNat_lt.2 (Nat.lt_of_le_of_lt h1 (by decide)))]; simp
/-- How many words stand below. -/
def lbI (ws : List (Int × Int)) (t : Int) : Nat := (ws.takeWhile fun p => decide (p.1 < t)).length
theorem lbI_le (ws : List (Int × Int)) (t : Int) : lbI ws t ≤ ws.length := by
  unfold lbI
  exact (List.takeWhile_sublist _).length_le
theorem lbI_eq : ∀ (ws : List (Int × Int)) (t : Int) (i : Nat), i ≤ ws.length → (∀ m (h : m < ws.length), m < i → ws[m].1 < t) → (∀ m (h : m < ws.length), i ≤ m → t ≤ ws[m].1) → lbI ws t = i
  | [], t, i, h, _, _ => by simp at h; subst h; rfl
  | p :: l, t, i, h, h1, h2 => by
    unfold lbI
    cases i with
    | zero =>
      have := h2 0 (by simp) (by omega)
      simp only [List.getElem_cons_zero] at this
      rw [List.takeWhile_cons, if_neg (by simp; omega)]; rfl
    | succ i =>
      have := h1 0 (by simp) (by omega)
      simp only [List.getElem_cons_zero] at this
      rw [List.takeWhile_cons, if_pos (by simp; omega), List.length_cons]
      congr 1
      exact lbI_eq l t i (by simp at h; omega) (fun m hm hmi => by have := h1 (m + 1) (by simp; omega) (by omega); simpa using this) (fun m hm hmi => by have := h2 (m + 1) (by simp; omega) (by omega); simpa using this)
/-- Words that rise. -/
def rises (ws : List (Int × Int)) : Prop := ∀ i j (h : j < ws.length), (hij : i < j) → (ws[i]'(by omega)).1 < ws[j].1
theorem good_rises {ws : List (Int × Int)} (h : goodI (-1) ws = true) : rises ws := fun _ _ hj hij => good_mono h hij hj
def inAt (ws : List (Int × Int)) (t : Int) : Bool := decide (∃ p, ws[lbI ws t]? = some p ∧ p.1 = t)
/-- The word of a key, of words that rise, stands where so many are below. -/
theorem find_lb {ws : List (Int × Int)} (hr : rises ws) (t : Int) : ws.find? (fun p => decide (p.1 = t)) = (ws[lbI ws t]?).bind fun p => if p.1 = t then some p else none := by
  induction ws with
  | nil => simp [lbI]
  | cons p l ih =>
    have hr' : rises l := fun i j hj hij => by have := hr (i + 1) (j + 1) (by simp; omega) (by omega); simpa using this
    have hp : ∀ q ∈ l, p.1 < q.1 := fun q hq => by
      obtain ⟨k, hk, rfl⟩ := List.getElem_of_mem hq
      have := hr 0 (k + 1) (by simp; omega) (by omega)
      simpa using this
    rcases Int.lt_trichotomy p.1 t with h | h | h
    · have e1 : lbI (p :: l) t = lbI l t + 1 := by unfold lbI; rw [List.takeWhile_cons, if_pos (by simp; omega)]; rfl
      rw [e1, List.find?_cons_of_neg (by simp; omega), ih hr']
      simp
    · have e1 : lbI (p :: l) t = 0 := by unfold lbI; rw [List.takeWhile_cons, if_neg (by simp; omega)]; rfl
      rw [e1, List.find?_cons_of_pos (by simp; omega)]
      simp [h]
    · have e1 : lbI (p :: l) t = 0 := by unfold lbI; rw [List.takeWhile_cons, if_neg (by simp; omega)]; rfl
      rw [e1, List.find?_cons_of_neg (by simp; omega), List.find?_eq_none.2 (fun q hq => by have := hp q hq; simp; omega)]
      simp; omega
theorem find_get {ws : List (Int × Int)} (hr : rises ws) {t : Int} {i : Nat} (hi : i < ws.length) (h : ws[i].1 = t) : ws.find? (fun p => decide (p.1 = t)) = some ws[i] := by
  rw [List.find?_eq_some_iff_getElem]
  refine ⟨by simp [h], i, hi, rfl, fun j hj => ?_⟩
  have := hr j i hi hj
  simp; omega
end Go.Proofs.YtjcgaelibiiiiaaDoor
namespace Go.Proofs.YtjcgaelibiiiiaaDoor
open Go.Abs
theorem bits_get {ws : List (Int × Int)} (hb : bits64 ws) {i : Nat} (hi : i < ws.length) : 0 ≤ ws[i].2 ∧ ws[i].2 < 18446744073709551616 := hb _ (List.getElem_mem hi)
theorem word_bit {b : Int} (h0 : 0 ≤ b) (h1 : b < 18446744073709551616) (k : Nat) : (IntKind.u64.wrap (b.tdiv (2 ^ k))).tmod 2 = ((b.toNat / 2 ^ k % 2 : Nat) : Int) := by
  obtain ⟨x, rfl⟩ : ∃ x : Nat, b = x := ⟨b.toNat, by omega⟩
  have e : ((x : Int).tdiv (2 ^ k)) = ((x / 2 ^ k : Nat) : Int) := by
    rw [Int.tdiv_eq_ediv_of_nonneg (by omega)]
    simp
  have h2 : x / 2 ^ k ≤ x := Nat.div_le_self _ _
  rw [Int.toNat_natCast]
  generalize x / 2 ^ k = y at *
  rw [e, wrap_u64 (by omega) (by omega), Int.tmod_eq_emod_of_nonneg (by omega)]
  omega
theorem in_found {ws : List (Int × Int)} (hb : bits64 ws) {n i : Nat} (hi : i < ws.length) (h : ws[i].1 = (n : Int) / 64) (hj : ∀ (j : Nat) (h : j < ws.length), j < i → ws[j].1 ≠ (n : Int) / 64) :
    decide ((IntKind.u64.wrap (ws[i].2.tdiv (2 ^ (n % 64)))).tmod 2 = 1) = inI ws n := by
  have hf : ws.find? (fun p => decide (p.1 = (n : Int) / 64)) = some ws[i] := by
    rw [List.find?_eq_some_iff_getElem]
    exact ⟨by simp [h], i, hi, rfl, fun j hji => by simpa using hj j (by omega) hji⟩
  obtain ⟨b0, b1⟩ := bits_get hb hi
  unfold inI
  rw [hf, word_bit b0 b1]
  simp only
  congr 1
  exact propext ⟨fun h => by omega, fun h => by omega⟩
theorem in_none {ws : List (Int × Int)} {n : Nat} (hj : ∀ (j : Nat) (h : j < ws.length), ws[j].1 ≠ (n : Int) / 64) : inI ws n = false := by
  unfold inI
  rw [List.find?_eq_none.2 (fun p hp => by obtain ⟨k, hk, rfl⟩ := List.getElem_of_mem hp; simpa using hj k hk)]
theorem natW_len (ws : List (Int × Int)) : (natW ws).length = ws.length := by simp [natW]
theorem nums_take_len (ws : List (Int × Int)) (i : Nat) : (numsA (natW (ws.take i))).length ≤ 64 * i := by
  have := numsA_len (natW (ws.take i))
  rw [natW_len, List.length_take] at this
  omega
theorem nums_end {ws : List (Int × Int)} {i : Nat} (hi : i < ws.length) (h0 : 0 ≤ ws[i].1) : numsA (natW (ws.take i)) ++ numsF ws[i].1 64 0 ws[i].2.toNat = numsA (natW (ws.take (i + 1))) := by
  rw [natW_take_succ hi, numsW_F h0]
end Go.Proofs.YtjcgaelibiiiiaaDoor
namespace Go.Proofs.YtjcgaelibiiiiaaDoor
open Go.Abs
theorem rises_le {ws : List (Int × Int)} (hr : rises ws) {i j : Nat} (h : j < ws.length) (hij : i ≤ j) : (ws[i]'(by omega)).1 ≤ ws[j].1 := by
  rcases Nat.lt_or_ge i j with h1 | h1
  · exact Int.le_of_lt (hr i j h h1)
  · obtain rfl : i = j := by omega
    exact Int.le_refl _
theorem search_end {ws : List (Int × Int)} {t : Int} {i j : Nat} (hij : i ≤ j) (hj : j ≤ ws.length) (hn : ¬ i < j) (h1 : ∀ m (h : m < ws.length), m < i → ws[m].1 < t) (h2 : ∀ m (h : m < ws.length), j ≤ m → t ≤ ws[m].1) : lbI ws t = i :=
  lbI_eq ws t i (by omega) h1 (fun m h hm => h2 m h (by omega))
theorem inAt_lt {ws : List (Int × Int)} {t : Int} {i : Nat} (e : lbI ws t = i) (hi : i < ws.length) : decide (ws[i].1 - t = 0) = inAt ws t := by
  unfold inAt
  rw [e]
  refine decide_eq_decide.2 ⟨fun h => ⟨_, List.getElem?_eq_getElem hi, by omega⟩, fun ⟨p, h1, h2⟩ => ?_⟩
  rw [List.getElem?_eq_getElem hi] at h1
  cases h1; omega
theorem inAt_ge {ws : List (Int × Int)} {t : Int} {i : Nat} (e : lbI ws t = i) (hi : ¬ i < ws.length) : inAt ws t = false := by
  unfold inAt
  simp [e, List.getElem?_eq_none (Nat.le_of_not_lt hi)]
theorem has_in {ws : List (Int × Int)} (hr : rises ws) (hb : bits64 ws) {n : Nat} (h : inAt ws ((n : Int) / 64) = true) : ∃ hi : lbI ws ((n : Int) / 64) < ws.length, inI ws n = decide ((ws[lbI ws ((n : Int) / 64)].2.toNat / 2 ^ (n % 64)) % 2 = 1) := by
  unfold inAt at h
  simp only [decide_eq_true_eq] at h
  obtain ⟨p, hp, he⟩ := h
  obtain ⟨hi, rfl⟩ := List.getElem?_eq_some_iff.1 hp
  refine ⟨hi, ?_⟩
  unfold inI
  rw [find_lb hr, hp]
  simp [he]
theorem has_out {ws : List (Int × Int)} (hr : rises ws) {n : Nat} (h : inAt ws ((n : Int) / 64) = false) : inI ws n = false := by
  unfold inAt at h
  simp only [decide_eq_false_iff_not, not_exists, not_and] at h
  unfold inI
  rw [find_lb hr]
  cases hp : ws[lbI ws ((n : Int) / 64)]? with
  | none => simp
  | some p => simp [h p hp]
theorem shr_bit {b : Int} (h0 : 0 ≤ b) (h1 : b < 18446744073709551616) (k : Nat) : decide (((b / 2 ^ k).toNat &&& 1) = 1) = decide (b.toNat / 2 ^ k % 2 = 1) := by
  obtain ⟨x, rfl⟩ : ∃ x : Nat, b = x := ⟨b.toNat, by omega⟩
  have e : ((x : Int) / 2 ^ k).toNat = x / 2 ^ k := by
    have : ((x : Int) / 2 ^ k) = ((x / 2 ^ k : Nat) : Int) := by simp
    rw [this, Int.toNat_natCast]
  rw [e, Int.toNat_natCast, Nat.and_one_is_mod]
def sizeI (ws : List (Int × Int)) : Nat := (numsA (natW ws)).length
theorem sizeI_take {ws : List (Int × Int)} {i : Nat} (hi : i < ws.length) : sizeI (ws.take (i + 1)) = sizeI (ws.take i) + popI ws[i].2 := by
  unfold sizeI
  rw [natW_take_succ hi, List.length_append]
  simp [numsW, popI]
end Go.Proofs.YtjcgaelibiiiiaaDoor
namespace Go.Proofs.YtjcgaelibiiiiaaDoor
theorem good_mem {ws : List (Int × Int)} (h : goodI (-1) ws = true) : ∀ p ∈ ws, 0 ≤ p.1 ∧ p.1 < 16384 := fun p hp => by
  obtain ⟨k, hk, rfl⟩ := List.getElem_of_mem hp
  have := good_at h hk
  exact ⟨this.1, this.2.1⟩
end Go.Proofs.YtjcgaelibiiiiaaDoor
namespace Go.Proofs.YtjcgaelibiiiiaaDoor
theorem bit_eq {b : Int} (h0 : 0 ≤ b) (k : Nat) : (b / 2 ^ k % 2 = 1) = (b.toNat / 2 ^ k % 2 = 1) := by
  obtain ⟨x, rfl⟩ : ∃ x : Nat, b = x := ⟨b.toNat, by omega⟩
  have e : ((x : Int) / 2 ^ k) = ((x / 2 ^ k : Nat) : Int) := by simp
  rw [e, Int.toNat_natCast]
  generalize x / 2 ^ k = y
  exact propext ⟨fun h => by omega, fun h => by omega⟩
end Go.Proofs.YtjcgaelibiiiiaaDoor
namespace Go.Proofs.YtjcgaelibiiiiaaDoor
theorem take_step {α : Type} {a b : List α} {i : Nat} (ha : i < a.length) (hb : i < b.length) (h : a[i] = b[i]) (ht : a.take i = b.take i) : a.take (i + 1) = b.take (i + 1) := by
  rw [List.take_add_one, List.take_add_one, List.getElem?_eq_getElem ha, List.getElem?_eq_getElem hb, h, ht]
theorem take_end {α : Type} {a b : List α} {i : Nat} (ha : ¬ i < a.length) (hb : a.length = b.length) (ht : a.take i = b.take i) : a = b := by
  rw [← List.take_of_length_le (Nat.le_of_not_lt ha), ht, List.take_of_length_le (by omega)]
end Go.Proofs.YtjcgaelibiiiiaaDoor
namespace Go.Proofs.YtjcgaelibiiiiaaDoor
theorem sizeI_le (ws : List (Int × Int)) (i : Nat) : sizeI (ws.take i) ≤ 64 * i := nums_take_len ws i
end Go.Proofs.YtjcgaelibiiiiaaDoor
namespace Go.Proofs.YtjcgaelibiiiiaaDoor
/-- A set's numbers; none of one that may not be. -/
def listI (ws : List (Int × Int)) : List Int := if goodI (-1) ws then numsA (natW ws) else []
theorem listI_len (ws : List (Int × Int)) : (listI ws).length ≤ 64 * ws.length := by
  unfold listI
  split
  · have := nums_take_len ws ws.length; rwa [List.take_length] at this
  · simp
end Go.Proofs.YtjcgaelibiiiiaaDoor
