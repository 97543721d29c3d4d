/-
  A word's numbers: by halves, and by its lowest bit. Plain Lean, of no program. By this seat's session.
-/
import Derived.Lib.TrailingZeros
namespace Go.Abs
/-- The places of the ones of a number, from a place on, rising. -/
def bitsL : Nat → Nat → Nat → List Nat
  | 0, _, _ => []
  | f + 1, n, x => if x % 2 = 1 then n :: bitsL f (n + 1) (x / 2) else bitsL f (n + 1) (x / 2)
theorem bitsL_zero : ∀ f n, bitsL f n 0 = []
  | 0, _ => rfl
  | f + 1, n => by simp [bitsL, bitsL_zero f (n + 1)]
theorem and_div2 (a b : Nat) : (a &&& b) / 2 = (a / 2) &&& (b / 2) := by
  apply Nat.eq_of_testBit_eq
  intro i
  simp only [Nat.testBit_div_two, Nat.testBit_and]
theorem and_mod2 (a b : Nat) : (a &&& b) % 2 = (a % 2) * (b % 2) := by
  have h := Nat.testBit_and a b 0
  simp only [Nat.testBit_zero] at h
  rcases Nat.mod_two_eq_zero_or_one a with ha | ha <;> rcases Nat.mod_two_eq_zero_or_one b with hb | hb <;> rcases Nat.mod_two_eq_zero_or_one (a &&& b) with hc | hc <;> simp [ha, hb, hc] at h ⊢
theorem low_odd (y : Nat) : (2 * y + 1) &&& (2 * y + 1 - 1) = 2 * y := by
  have h1 := and_div2 (2 * y + 1) (2 * y)
  have h2 := and_mod2 (2 * y + 1) (2 * y)
  rw [show (2 * y + 1) / 2 = y by omega, show 2 * y / 2 = y by omega, Nat.and_self] at h1
  rw [show 2 * y % 2 = 0 by omega, Nat.mul_zero] at h2
  rw [Nat.add_sub_cancel]
  omega
theorem low_even (y : Nat) (h : 0 < y) : (2 * y) &&& (2 * y - 1) = 2 * (y &&& (y - 1)) := by
  have h1 := and_div2 (2 * y) (2 * y - 1)
  have h2 := and_mod2 (2 * y) (2 * y - 1)
  rw [show 2 * y / 2 = y by omega, show (2 * y - 1) / 2 = y - 1 by omega] at h1
  rw [show 2 * y % 2 = 0 by omega, Nat.zero_mul] at h2
  omega
/-- The lowest one first. -/
theorem bitsL_low : ∀ (f n x : Nat), x ≠ 0 → x < 2 ^ f → bitsL f n x = (n + Lib.ctzFrom f x) :: bitsL f n (x &&& (x - 1))
  | 0, n, x, h, hx => by simp at hx; exact absurd hx h
  | f + 1, n, x, h, hx => by
    have hx2 : x / 2 < 2 ^ f := by rw [Nat.pow_succ] at hx; omega
    rcases Nat.mod_two_eq_zero_or_one x with hm | hm
    · obtain ⟨y, rfl⟩ : ∃ y, x = 2 * y := ⟨x / 2, by omega⟩
      have hy : 0 < y := by omega
      rw [low_even y hy]
      have e1 : 2 * y / 2 = y := by omega
      have e2 : 2 * (y &&& (y - 1)) / 2 = y &&& (y - 1) := by omega
      have e3 : 2 * (y &&& (y - 1)) % 2 = 0 := by omega
      rw [e1] at hx2
      have ih := bitsL_low f (n + 1) y (by omega) hx2
      simp only [bitsL, Lib.ctzFrom, hm, e1, e2, e3, ih]
      simp
      omega
    · obtain ⟨y, rfl⟩ : ∃ y, x = 2 * y + 1 := ⟨x / 2, by omega⟩
      rw [low_odd y]
      have e1 : (2 * y + 1) / 2 = y := by omega
      have e2 : 2 * y / 2 = y := by omega
      have e3 : 2 * y % 2 = 0 := by omega
      simp [bitsL, Lib.ctzFrom, hm, e1, e2, e3]
theorem low_lt {x : Nat} (h : x ≠ 0) : x &&& (x - 1) < x := Nat.lt_of_le_of_lt Nat.and_le_right (by omega)
end Go.Abs
namespace Go.Proofs.YtjcgaelibiiiiaaDoor
/-- A word's numbers, a set's. -/
def numsW (a r : Nat) : List Int := (Abs.bitsL 64 0 r).map fun n => ((64 * a + n : Nat) : Int)
def numsA (ws : List (Nat × Nat)) : List Int := ws.flatMap fun p => numsW p.1 p.2
end Go.Proofs.YtjcgaelibiiiiaaDoor
