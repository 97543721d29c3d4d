/-
  How many ones a word has, by halves: plain Lean, of no program. By this seat's session.
-/
import Derived.Test.YtjcgaelibiiiiaaDoorPure
set_option linter.unusedVariables false
namespace Go.Proofs.YtjcgaelibiiiiaaDoor
open Go.Abs
/-- The sum of so many digits. -/
def digs (b : Nat) : Nat → Nat → Nat
  | 0, _ => 0
  | n + 1, x => x % b + digs b n (x / b)
theorem digs_bits : ∀ f k x, digs 2 f x = (Abs.bitsL f k x).length
  | 0, k, x => rfl
  | f + 1, k, x => by
    unfold digs Abs.bitsL
    rw [digs_bits f (k + 1) (x / 2)]
    split
    · rename_i h; rw [h, List.length_cons]; omega
    · rename_i h; omega
def digLe (b c : Nat) : Nat → Nat → Prop
  | 0, _ => True
  | n + 1, x => x % b ≤ c ∧ digLe b c n (x / b)
/-- A mask: the lower half of each of so many digits. -/
def mask (k : Nat) : Nat → Nat
  | 0 => 0
  | n + 1 => 2 ^ (2 * k) * mask k n + (2 ^ k - 1)
theorem digs_succ (b n x : Nat) : digs b (n + 1) x = x % b + digs b n (x / b) := rfl
theorem digLe_succ (b c n x : Nat) : digLe b c (n + 1) x = (x % b ≤ c ∧ digLe b c n (x / b)) := rfl
theorem mask_succ (k n : Nat) : mask k (n + 1) = 2 ^ (2 * k) * mask k n + (2 ^ k - 1) := rfl
theorem pow_lt2 (k : Nat) : 2 ^ k - 1 < 2 ^ (2 * k) := by
  have h1 : 2 ^ k ≤ 2 ^ (2 * k) := Nat.pow_le_pow_right (by decide) (by omega)
  have h2 : 0 < 2 ^ k := Nat.pow_pos (by decide)
  omega
theorem and_mask (k n x : Nat) : x &&& mask k (n + 1) = 2 ^ (2 * k) * ((x / 2 ^ (2 * k)) &&& mask k n) + x % 2 ^ k := by
  have hx : x = 2 ^ (2 * k) * (x / 2 ^ (2 * k)) + x % 2 ^ (2 * k) := (Nat.div_add_mod x (2 ^ (2 * k))).symm
  have h1 : x % 2 ^ k < 2 ^ (2 * k) := Nat.lt_of_lt_of_le (Nat.mod_lt _ (Nat.pow_pos (by decide))) (Nat.pow_le_pow_right (by decide) (by omega))
  have h2 : x % 2 ^ (2 * k) < 2 ^ (2 * k) := Nat.mod_lt _ (Nat.pow_pos (by decide))
  apply Nat.eq_of_testBit_eq
  intro j
  rw [Nat.testBit_and]
  conv => lhs; rw [hx]
  rw [mask_succ]
  rw [Nat.testBit_two_pow_mul_add _ h2, Nat.testBit_two_pow_mul_add _ (pow_lt2 k), Nat.testBit_two_pow_mul_add _ h1]
  split
  · rename_i hj
    rw [Nat.testBit_mod_two_pow, Nat.testBit_mod_two_pow, Nat.testBit_two_pow_sub_one]
    simp only [hj, decide_true, Bool.true_and]
    rw [Bool.and_comm]
  · rw [Nat.testBit_and]
/-- Halves put together. -/
def halves (k n x : Nat) : Nat := ((x / 2 ^ k) &&& mask k n) + (x &&& mask k n)
theorem halves_step (k n x : Nat) : halves k (n + 1) x = 2 ^ (2 * k) * halves k n (x / 2 ^ (2 * k)) + (x / 2 ^ k % 2 ^ k + x % 2 ^ k) := by
  unfold halves
  rw [and_mask, and_mask]
  have e : x / 2 ^ k / 2 ^ (2 * k) = x / 2 ^ (2 * k) / 2 ^ k := by rw [Nat.div_div_eq_div_mul, Nat.div_div_eq_div_mul, Nat.mul_comm]
  rw [e, Nat.mul_add]
  omega
theorem two_k (k : Nat) (hk : 0 < k) : 2 ^ k - 1 + (2 ^ k - 1) < 2 ^ (2 * k) := by
  have h1 : 2 ^ (2 * k) = 2 ^ k * 2 ^ k := by rw [← Nat.pow_add]; congr 1; omega
  have h2 : 2 ≤ 2 ^ k := by
    have := Nat.pow_le_pow_right (n := 2) (by decide) hk
    simpa using this
  have h3 : 2 * 2 ^ k ≤ 2 ^ k * 2 ^ k := Nat.mul_le_mul_right _ h2
  omega
theorem halves_digs (k : Nat) (hk : 0 < k) : ∀ n x, digs (2 ^ (2 * k)) n (halves k n x) = digs (2 ^ k) (2 * n) x
  | 0, x => rfl
  | n + 1, x => by
    have hp : 0 < 2 ^ k := Nat.pow_pos (by decide)
    have a := Nat.mod_lt (x / 2 ^ k) hp
    have b := Nat.mod_lt x hp
    have c := two_k k hk
    have hlt : x / 2 ^ k % 2 ^ k + x % 2 ^ k < 2 ^ (2 * k) := by omega
    have e : x / 2 ^ k / 2 ^ k = x / 2 ^ (2 * k) := by rw [Nat.div_div_eq_div_mul, ← Nat.pow_add]; congr 2; omega
    rw [halves_step, show 2 * (n + 1) = 2 * n + 1 + 1 by omega]
    rw [digs_succ, digs_succ, digs_succ]
    rw [Nat.mul_add_mod, Nat.mod_eq_of_lt hlt, Nat.mul_add_div (Nat.pow_pos (by decide)), Nat.div_eq_of_lt hlt, Nat.add_zero, halves_digs k hk n]
    rw [e]
    omega
theorem halves_le (k c : Nat) (hk : 0 < k) : ∀ n x, digLe (2 ^ k) c (2 * n) x → digLe (2 ^ (2 * k)) (c + c) n (halves k n x)
  | 0, x, _ => trivial
  | n + 1, x, h => by
    rw [show 2 * (n + 1) = 2 * n + 1 + 1 by omega] at h
    obtain ⟨h1, h2, h3⟩ := h
    have hp : 0 < 2 ^ k := Nat.pow_pos (by decide)
    have a := Nat.mod_lt (x / 2 ^ k) hp
    have b := Nat.mod_lt x hp
    have d := two_k k hk
    have hlt : x / 2 ^ k % 2 ^ k + x % 2 ^ k < 2 ^ (2 * k) := by omega
    have e : x / 2 ^ k / 2 ^ k = x / 2 ^ (2 * k) := by rw [Nat.div_div_eq_div_mul, ← Nat.pow_add]; congr 2; omega
    rw [halves_step]
    rw [digLe_succ]
    rw [Nat.mul_add_mod, Nat.mod_eq_of_lt hlt, Nat.mul_add_div (Nat.pow_pos (by decide)), Nat.div_eq_of_lt hlt, Nat.add_zero]
    exact ⟨by omega, halves_le k c hk n _ (e ▸ h3)⟩
theorem digLe_bits : ∀ n x, digLe 2 1 n x
  | 0, _ => trivial
  | n + 1, x => ⟨by omega, digLe_bits n _⟩
/-- The third step: neighbours are added, then masked. -/
theorem third_step (n y : Nat) (h0 : y % 16 ≤ 4) (h1 : y / 16 % 16 ≤ 4) (h2 : y / 256 % 16 ≤ 4) : (y / 16 + y) &&& mask 4 (n + 1) = 256 * ((y / 256 / 16 + y / 256) &&& mask 4 n) + (y / 16 % 16 + y % 16) := by
  rw [and_mask]
  have e1 : (y / 16 + y) / 2 ^ (2 * 4) = y / 256 / 16 + y / 256 := by
    simp only [show (2 : Nat) ^ (2 * 4) = 256 from rfl]
    obtain ⟨p, r, d1, d0, rfl, hr, hd1, hd0⟩ : ∃ p r d1 d0, y = 256 * (16 * p + r) + 16 * d1 + d0 ∧ r < 16 ∧ d1 < 16 ∧ d0 < 16 := ⟨y / 256 / 16, y / 256 % 16, y / 16 % 16, y % 16, by omega, by omega, by omega, by omega⟩
    have a1 : (256 * (16 * p + r) + 16 * d1 + d0) / 256 = 16 * p + r := by omega
    have a2 : (256 * (16 * p + r) + 16 * d1 + d0) / 16 = 16 * (16 * p + r) + d1 := by omega
    rw [a1] at h2
    rw [a2] at h1
    have b2 : r ≤ 4 := by omega
    have b1 : d1 ≤ 4 := by omega
    have b0 : d0 ≤ 4 := by omega
    rw [a1, a2]
    have a3 : (16 * p + r) / 16 = p := by omega
    rw [a3]
    clear a1 a2 a3 h0 h1 h2
    omega
  have e2 : (y / 16 + y) % 2 ^ 4 = y / 16 % 16 + y % 16 := by
    simp only [show (2 : Nat) ^ 4 = 16 from rfl]; omega
  rw [e1, e2]
theorem third_digs : ∀ n y, digLe 16 4 (2 * n + 1) y → digs 256 n ((y / 16 + y) &&& mask 4 n) = digs 16 (2 * n) y ∧ digLe 256 8 n ((y / 16 + y) &&& mask 4 n)
  | 0, y, _ => ⟨rfl, trivial⟩
  | n + 1, y, h => by
    rw [show 2 * (n + 1) + 1 = 2 * n + 1 + 1 + 1 by omega] at h
    obtain ⟨h0, h1, h3⟩ := h
    have e : y / 16 / 16 = y / 256 := by omega
    have h2 : y / 256 % 16 ≤ 4 := by rw [e] at h3; exact h3.1
    obtain ⟨i1, i2⟩ := third_digs n (y / 256) (e ▸ h3)
    rw [third_step n y h0 h1 h2, show 2 * (n + 1) = 2 * n + 1 + 1 by omega]
    refine ⟨?_, ?_⟩
    · rw [digs_succ, digs_succ, digs_succ]
      rw [show (256 * ((y / 256 / 16 + y / 256) &&& mask 4 n) + (y / 16 % 16 + y % 16)) % 256 = y / 16 % 16 + y % 16 by omega, show (256 * ((y / 256 / 16 + y / 256) &&& mask 4 n) + (y / 16 % 16 + y % 16)) / 256 = ((y / 256 / 16 + y / 256) &&& mask 4 n) by omega, i1]
      rw [e]
      omega
    · rw [digLe_succ]
      rw [show (256 * ((y / 256 / 16 + y / 256) &&& mask 4 n) + (y / 16 % 16 + y % 16)) % 256 = y / 16 % 16 + y % 16 by omega, show (256 * ((y / 256 / 16 + y / 256) &&& mask 4 n) + (y / 16 % 16 + y % 16)) / 256 = ((y / 256 / 16 + y / 256) &&& mask 4 n) by omega]
      exact ⟨by omega, i2⟩
theorem last_steps (y : Nat) (h : digLe 256 8 8 y) (hy : y < 18446744073709551616) : (y + y / 256 + (y + y / 256) / 65536 + (y + y / 256 + (y + y / 256) / 65536) / 4294967296) % 128 = digs 256 8 y := by
  have key : ∀ x, ∃ q b, x = 256 * q + b ∧ b < 256 := fun x => ⟨x / 256, x % 256, by omega, by omega⟩
  have md : ∀ q b, b < 256 → (256 * q + b) % 256 = b ∧ (256 * q + b) / 256 = q := fun q b hb => ⟨by omega, by omega⟩
  obtain ⟨y1, b0, rfl, h0⟩ := key y
  obtain ⟨y2, b1, rfl, h1⟩ := key y1
  obtain ⟨y3, b2, rfl, h2⟩ := key y2
  obtain ⟨y4, b3, rfl, h3⟩ := key y3
  obtain ⟨y5, b4, rfl, h4⟩ := key y4
  obtain ⟨y6, b5, rfl, h5⟩ := key y5
  obtain ⟨y7, b6, rfl, h6⟩ := key y6
  obtain ⟨y8, b7, rfl, h7⟩ := key y7
  simp only [digLe, digs, md _ _ h0, md _ _ h1, md _ _ h2, md _ _ h3, md _ _ h4, md _ _ h5, md _ _ h6, md _ _ h7, and_true, Nat.add_zero] at h ⊢
  obtain ⟨k0, k1, k2, k3, k4, k5, k6, k7⟩ := h
  have hz : y8 = 0 := by omega
  subst hz
  clear key md h0 h1 h2 h3 h4 h5 h6 h7 hy
  generalize hY : 256 * (256 * (256 * (256 * (256 * (256 * (256 * (256 * 0 + b7) + b6) + b5) + b4) + b3) + b2) + b1) + b0 = Y
  generalize hY1 : 256 * (256 * (256 * (256 * (256 * (256 * (256 * 0 + b7) + b6) + b5) + b4) + b3) + b2) + b1 = Y1
  generalize hT : b2 + b3 + 256 * (b3 + b4) + 65536 * (b4 + b5) + 16777216 * (b5 + b6) + 4294967296 * (b6 + b7) + 1099511627776 * b7 = T
  generalize hT2 : b4 + b5 + b6 + b7 + 256 * (b5 + b6 + b7) + 65536 * (b6 + b7) + 16777216 * b7 = T2
  have e1 : Y + Y1 = (b0 + b1 + 256 * (b1 + b2)) + 65536 * T := by omega
  have t1 : (Y + Y1) / 65536 = T := by
    rw [e1, Nat.add_mul_div_left _ _ (by decide), Nat.div_eq_of_lt (by omega), Nat.zero_add]
  rw [t1]
  have e2 : Y + Y1 + T = (b0 + b1 + b2 + b3 + 256 * (b1 + b2 + b3 + b4) + 65536 * (b2 + b3 + b4 + b5) + 16777216 * (b3 + b4 + b5 + b6)) + 4294967296 * T2 := by omega
  have t2 : (Y + Y1 + T) / 4294967296 = T2 := by
    rw [e2, Nat.add_mul_div_left _ _ (by decide), Nat.div_eq_of_lt (by omega), Nat.zero_add]
  rw [t2]
  generalize hM : 2 * (b1 + b2 + b3 + b4) + 512 * (b2 + b3 + b4 + b5) + 131072 * (b3 + b4 + b5 + b6) + 33554432 * T2 + (2 * (b5 + b6 + b7) + 512 * (b6 + b7) + 131072 * b7) = M
  have e3 : Y + Y1 + T + T2 = (b0 + (b1 + (b2 + (b3 + (b4 + (b5 + (b6 + b7))))))) + 128 * M := by
    rw [e2, ← hM]
    clear e1 e2 t1 t2 hY hY1 hT hM k0 k1 k2 k3 k4 k5 k6 k7
    omega
  have e4 : b0 + (b1 + (b2 + (b3 + (b4 + (b5 + (b6 + b7)))))) < 128 := by
    clear e1 e2 e3 t1 t2 hY hY1 hT hT2 hM
    omega
  clear e1 e2 t1 t2 hY hY1 hT hT2 hM k0 k1 k2 k3 k4 k5 k6 k7
  generalize b0 + (b1 + (b2 + (b3 + (b4 + (b5 + (b6 + b7)))))) = S at *
  generalize Y + Y1 + T + T2 = Z at *
  omega
theorem mask1 : mask 1 32 = 6148914691236517205 := by decide
theorem mask2 : mask 2 16 = 3689348814741910323 := by decide
theorem mask4 : mask 4 8 = 1085102592571150095 := by decide
theorem halves_lt (x n k : Nat) (h : mask k n < 9223372036854775808) : halves k n x < 18446744073709551616 := by
  unfold halves
  have a := Nat.and_le_right (n := x / 2 ^ k) (m := mask k n)
  have b := Nat.and_le_right (n := x) (m := mask k n)
  omega
/-- The steps together. -/
theorem pop_steps (x : Nat) (hx : x < 18446744073709551616) :
    let y1 := halves 1 32 x
    let y2 := halves 2 16 y1
    let y3 := (y2 / 16 + y2) &&& mask 4 8
    y1 < 18446744073709551616 ∧ y2 < 9223372036854775808 ∧ y3 ≤ 1085102592571150095 ∧ (y3 + y3 / 256 + (y3 + y3 / 256) / 65536 + (y3 + y3 / 256 + (y3 + y3 / 256) / 65536) / 4294967296) % 128 = (Abs.bitsL 64 0 x).length := by
  intro y1 y2 y3
  have d1 : digs 4 32 y1 = digs 2 64 x := halves_digs 1 (by decide) 32 x
  have l1 : digLe 4 2 32 y1 := halves_le 1 1 (by decide) 32 x (digLe_bits 64 x)
  have d2 : digs 16 16 y2 = digs 4 32 y1 := halves_digs 2 (by decide) 16 y1
  have l2 : digLe 16 4 16 y2 := halves_le 2 2 (by decide) 16 y1 l1
  have hy1 : y1 < 18446744073709551616 := halves_lt x 32 1 (by rw [mask1]; decide)
  have hy2 : y2 < 9223372036854775808 := by
    show halves 2 16 y1 < _
    unfold halves
    have a := Nat.and_le_right (n := y1 / 2 ^ 2) (m := mask 2 16)
    have b := Nat.and_le_right (n := y1) (m := mask 2 16)
    rw [mask2] at *
    omega
  have hy3 : y3 ≤ 1085102592571150095 := by
    show (y2 / 16 + y2) &&& mask 4 8 ≤ _
    rw [mask4]
    exact Nat.and_le_right
  have l3 : digLe 16 4 17 y2 := by
    have : ∀ n y, digLe 16 4 n y → y < 16 ^ n → digLe 16 4 (n + 1) y := by
      intro n
      induction n with
      | zero => intro y _ h; exact ⟨by simp at h; omega, trivial⟩
      | succ n ih => intro y h1 h2; exact ⟨h1.1, ih _ h1.2 (by rw [Nat.pow_succ] at h2; omega)⟩
    exact this 16 y2 l2 (by omega)
  obtain ⟨d3, l4⟩ := third_digs 8 y2 l3
  refine ⟨hy1, hy2, hy3, ?_⟩
  rw [last_steps y3 l4 (by omega), ← digs_bits 64 0 x, ← d1, ← d2]
  exact d3
theorem half_nat (n d : Nat) : ((n : Int) / (d : Int)).toNat = n / d := by
  have : ((n : Int) / (d : Int)) = ((n / d : Nat) : Int) := by simp
  rw [this, Int.toNat_natCast]
theorem ones1 (n : Nat) : IntKind.u64.wrap (((((n : Int) / 2).toNat &&& 6148914691236517205 : Nat) : Int) + ((n &&& 6148914691236517205 : Nat) : Int)) = (halves 1 32 n : Nat) := by
  have e := half_nat n 2
  simp only [Int.cast_ofNat_Int] at e
  rw [e]
  have h := halves_lt n 32 1 (by rw [mask1]; decide)
  unfold halves at *
  rw [mask1] at *
  simp only [show (2 : Nat) ^ 1 = 2 from rfl] at *
  rw [wrap_u64 (by omega) (by omega)]
  omega
theorem ones2 (n : Nat) : IntKind.u64.wrap (((((n : Int) / 4).toNat &&& 3689348814741910323 : Nat) : Int) + ((n &&& 3689348814741910323 : Nat) : Int)) = (halves 2 16 n : Nat) := by
  have e := half_nat n 4
  simp only [Int.cast_ofNat_Int] at e
  rw [e]
  have h := halves_lt n 16 2 (by rw [mask2]; decide)
  unfold halves at *
  rw [mask2] at *
  simp only [show (2 : Nat) ^ 2 = 4 from rfl] at *
  rw [wrap_u64 (by omega) (by omega)]
  omega
theorem ones_end {n y1 y2 : Nat} (hx : n < 18446744073709551616) (h1 : halves 1 32 n = y1) (h2 : halves 2 16 y1 = y2) {y3 : Nat} (h3 : (y2 / 16 + y2) &&& 1085102592571150095 = y3) :
    y1 < 18446744073709551616 ∧ y2 < 9223372036854775808 ∧ y3 ≤ 1085102592571150095 ∧ (y3 + y3 / 256 + (y3 + y3 / 256) / 65536 + (y3 + y3 / 256 + (y3 + y3 / 256) / 65536) / 4294967296) % 128 = popI n := by
  have := pop_steps n hx
  simp only [h1, h2, mask4, h3] at this
  unfold popI
  rw [Int.toNat_natCast]
  exact this
theorem popI_le (x : Int) : popI x ≤ 64 := bitsL_len 64 0 _
theorem ones_fin {n y1 y2 : Nat} (hx : n < 18446744073709551616) (h1 : halves 1 32 n = y1) (h2 : halves 2 16 y1 = y2) :
    IntKind.i64.wrap (IntKind.u64.wrap (IntKind.u64.wrap (IntKind.u64.wrap ((((((y2 : Int) / 16 + (y2 : Int)).toNat &&& 1085102592571150095 : Nat) : Int) + ((((y2 : Int) / 16 + (y2 : Int)).toNat &&& 1085102592571150095 : Nat) : Int) / 256)) + IntKind.u64.wrap ((((((y2 : Int) / 16 + (y2 : Int)).toNat &&& 1085102592571150095 : Nat) : Int) + ((((y2 : Int) / 16 + (y2 : Int)).toNat &&& 1085102592571150095 : Nat) : Int) / 256)) / 65536)
      + IntKind.u64.wrap (IntKind.u64.wrap ((((((y2 : Int) / 16 + (y2 : Int)).toNat &&& 1085102592571150095 : Nat) : Int) + ((((y2 : Int) / 16 + (y2 : Int)).toNat &&& 1085102592571150095 : Nat) : Int) / 256)) + IntKind.u64.wrap ((((((y2 : Int) / 16 + (y2 : Int)).toNat &&& 1085102592571150095 : Nat) : Int) + ((((y2 : Int) / 16 + (y2 : Int)).toNat &&& 1085102592571150095 : Nat) : Int) / 256)) / 65536) / 4294967296)) % 128 = (popI n : Int) := by
  have e : ((y2 : Int) / 16 + (y2 : Int)).toNat = y2 / 16 + y2 := by omega
  rw [e]
  generalize h3 : (y2 / 16 + y2) &&& 1085102592571150095 = y3
  obtain ⟨_, _, b3, hp⟩ := ones_end hx h1 h2 h3
  have hle := popI_le (n : Int)
  rw [← hp] at hle ⊢
  have w1 : IntKind.u64.wrap ((y3 : Int) + (y3 : Int) / 256) = ((y3 + y3 / 256 : Nat) : Int) := by rw [wrap_u64 (by omega) (by omega)]; omega
  rw [w1]
  generalize hz : y3 + y3 / 256 = z at *
  have bz : z < 4611686018427387904 := by omega
  have w2 : IntKind.u64.wrap ((z : Int) + (z : Int) / 65536) = ((z + z / 65536 : Nat) : Int) := by rw [wrap_u64 (by omega) (by omega)]; omega
  rw [w2]
  generalize hu : z + z / 65536 = u at *
  have bu : u < 9223372036854775808 / 4 * 3 := by omega
  rw [wrap_u64 (by omega) (by omega), wrap_i64 (by omega) (by omega)]
  omega
end Go.Proofs.YtjcgaelibiiiiaaDoor
