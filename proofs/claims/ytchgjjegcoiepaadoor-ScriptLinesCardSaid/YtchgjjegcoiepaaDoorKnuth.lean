/- Plain numbers: the long division of 128 bits by 64, digit by digit. -/
import Derived.Lib.BitFns
namespace Go.Proofs.YtchgjjegcoiepaaDoor

theorem bitLen_bd : ∀ (k x : Nat), x < 2 ^ k → k ≤ 64 → x ≠ 0 → 1 ≤ Lib.bitLen x ∧ Lib.bitLen x ≤ k ∧ 2 ^ (Lib.bitLen x - 1) ≤ x ∧ x < 2 ^ (Lib.bitLen x) := by
  intro k
  induction k with
  | zero => intro x h _ h0; simp at h; omega
  | succ k ih =>
    intro x h hk h0
    have hx : x < 2 ^ 64 := Nat.lt_of_lt_of_le h (Nat.pow_le_pow_right (by omega) hk)
    rw [Lib.bitLen_half x h0 hx]
    by_cases h1 : x / 2 = 0
    · have : x = 1 := by omega
      subst this
      have : Lib.bitLen (1 / 2) = 0 := by decide
      rw [this]; simp
    · obtain ⟨a, b, c, d⟩ := ih (x / 2) (by rw [Nat.pow_succ] at h; omega) (by omega) h1
      refine ⟨by omega, by omega, ?_, ?_⟩
      · rw [Nat.add_sub_cancel_left]
        have : 2 ^ Lib.bitLen (x / 2) = 2 ^ (Lib.bitLen (x / 2) - 1) * 2 := by rw [← Nat.pow_succ]; congr 1; omega
        omega
      · rw [Nat.pow_add]; omega

/-- the guess of a digit: what holds at first. -/
theorem kn_init (u d a b : Nat) (hb : b < 4294967296) (ha : 2147483648 ≤ a) (ha2 : a < 4294967296) (hu : u < a * 4294967296 + b) (hd : d < 4294967296) :
    (u * 4294967296 + d) / (a * 4294967296 + b) ≤ u / a ∧ u / a ≤ 4294967297 ∧ u % a < 4294967296 := by
  refine ⟨?_, ?_, ?_⟩
  · rw [Nat.le_div_iff_mul_le (by omega)]
    have h1 := Nat.div_mul_le_self (u * 4294967296 + d) (a * 4294967296 + b)
    generalize (u * 4294967296 + d) / (a * 4294967296 + b) = q at *
    rw [Nat.mul_add, ← Nat.mul_assoc] at h1
    generalize q * b = t at *
    generalize q * a = z at *
    omega
  · have hb2 : b ≤ a * 2 := by omega
    have h3 : a * 4294967298 = a * 4294967296 + a * 2 := by rw [← Nat.mul_add]
    have : u < a * 4294967298 := by rw [h3]; exact Nat.lt_of_lt_of_le hu (Nat.add_le_add_left hb2 _)
    have h2 : u / a < 4294967298 := by
      refine Nat.div_lt_of_lt_mul ?_
      exact this
    exact Nat.le_of_lt_succ h2
  · have := Nat.mod_lt u (show 0 < a by omega)
    omega
/-- the test says no: the guess isn't too great. -/
theorem kn_no (u d a b q r : Nat) (hy : 0 < a * 4294967296 + b) (hq : q * a + r = u) (h : q * b ≤ 4294967296 * r + d) :
    q ≤ (u * 4294967296 + d) / (a * 4294967296 + b) := by
  rw [Nat.le_div_iff_mul_le hy, Nat.mul_add, ← Nat.mul_assoc]
  generalize q * b = t at *
  generalize q * a = z at *
  omega
theorem kn_digit (u d a b : Nat) (hu : u < a * 4294967296 + b) (hd : d < 4294967296) :
    (u * 4294967296 + d) / (a * 4294967296 + b) < 4294967296 := by
  refine Nat.div_lt_of_lt_mul ?_
  obtain ⟨y, hy⟩ : ∃ y, a * 4294967296 + b = y := ⟨_, rfl⟩
  rw [hy] at hu ⊢
  clear hy
  omega
/-- the test says yes: the guess is too great. -/
theorem kn_yes (u d a b q r : Nat) (hu : u < a * 4294967296 + b) (hd : d < 4294967296) (hq : q * a + r = u) (h : 4294967296 ≤ q ∨ 4294967296 * r + d < q * b)  :
    (u * 4294967296 + d) / (a * 4294967296 + b) < q := by
  rcases h with h | h
  · have := kn_digit u d a b hu hd; omega
  · rw [Nat.div_lt_iff_lt_mul (by omega), Nat.mul_add, ← Nat.mul_assoc]
    generalize q * b = t at *
    generalize q * a = z at *
    omega
/-- the rest is great: the guess isn't too great. -/
theorem kn_stop (u d a b q r : Nat) (hb : b < 4294967296) (hy : 0 < a * 4294967296 + b) (hq : q * a + r = u) (h1 : q ≤ 4294967296) (hr : 4294967296 ≤ r) :
    q ≤ (u * 4294967296 + d) / (a * 4294967296 + b) := by
  refine kn_no u d a b q r hy hq ?_
  have := Nat.mul_le_mul h1 (show b ≤ 4294967295 by omega)
  omega
/-- what is left over, in 64 bits. -/
theorem kn_rest (n y : Nat) (hy : y < 18446744073709551616) (hy0 : 0 < y) :
    (((n : Int) - ((n / y : Nat) : Int) * (y : Int)) % 18446744073709551616) = ((n % y : Nat) : Int) := by
  have h := Nat.div_add_mod n y
  have h2 := Nat.mod_lt n hy0
  have e : (n : Int) - ((n / y : Nat) : Int) * (y : Int) = ((n % y : Nat) : Int) := by
    rw [Nat.mul_comm] at h
    have : ((n / y * y + n % y : Nat) : Int) = (n : Int) := by rw [h]
    rw [Int.natCast_add, Int.natCast_mul] at this
    omega
  rw [e]
  omega
/-- two digits together. -/
theorem kn_join (u d1 d0 y : Nat) (hy : 0 < y) :
    (u * 18446744073709551616 + (d1 * 4294967296 + d0)) / y = ((u * 4294967296 + d1) / y) * 4294967296 + (((u * 4294967296 + d1) % y) * 4294967296 + d0) / y ∧
    (u * 18446744073709551616 + (d1 * 4294967296 + d0)) % y = (((u * 4294967296 + d1) % y) * 4294967296 + d0) % y := by
  have h := Nat.div_add_mod (u * 4294967296 + d1) y
  obtain ⟨q, hq⟩ : ∃ q, (u * 4294967296 + d1) / y = q := ⟨_, rfl⟩
  obtain ⟨r, hr⟩ : ∃ r, (u * 4294967296 + d1) % y = r := ⟨_, rfl⟩
  rw [hq, hr] at h ⊢
  clear hq hr
  have e : u * 18446744073709551616 + (d1 * 4294967296 + d0) = (r * 4294967296 + d0) + y * (q * 4294967296) := by
    rw [← Nat.mul_assoc]
    generalize y * q = z at *
    omega
  rw [e]
  exact ⟨by rw [Nat.add_mul_div_left _ _ hy]; omega, Nat.add_mul_mod_self_left _ _ _⟩
/-- divisor and dividend, both shifted. -/
theorem kn_shift (n y s : Nat) : (n * 2 ^ s) / (y * 2 ^ s) = n / y ∧ (n * 2 ^ s) % (y * 2 ^ s) = (n % y) * 2 ^ s :=
  ⟨Nat.mul_div_mul_right _ _ (Nat.two_pow_pos s), Nat.mul_mod_mul_right _ _ _⟩
/-- the dividend's upper half, shifted. -/
theorem kn_upper (hi lo y s : Nat) (hs : s ≤ 63) (hlo : lo < 18446744073709551616) (hY : y * 2 ^ s < 18446744073709551616) (h : hi < y) :
    hi * 2 ^ s % 18446744073709551616 = hi * 2 ^ s ∧ hi * 2 ^ s ||| lo / 2 ^ (64 - s) = hi * 2 ^ s + lo / 2 ^ (64 - s) ∧ hi * 2 ^ s + lo / 2 ^ (64 - s) < y * 2 ^ s ∧
    (hi * 18446744073709551616 + lo) * 2 ^ s = (hi * 2 ^ s + lo / 2 ^ (64 - s)) * 18446744073709551616 + lo * 2 ^ s % 18446744073709551616 := by
  have hp : 2 ^ s * 2 ^ (64 - s) = 18446744073709551616 := by rw [← Nat.pow_add, Nat.add_sub_cancel' (by omega)]
  have hl : lo / 2 ^ (64 - s) < 2 ^ s := by
    rw [Nat.div_lt_iff_lt_mul (Nat.two_pow_pos _), hp]; exact hlo
  have h1 : (hi + 1) * 2 ^ s ≤ y * 2 ^ s := Nat.mul_le_mul_right _ h
  rw [Nat.add_mul] at h1
  refine ⟨Nat.mod_eq_of_lt (by omega), ?_, by omega, ?_⟩
  · rw [Nat.mul_comm hi]; exact (Nat.two_pow_add_eq_or_of_lt hl hi).symm
  · have h2 := Nat.div_add_mod lo (2 ^ (64 - s))
    have e : lo * 2 ^ s % 18446744073709551616 = (lo % 2 ^ (64 - s)) * 2 ^ s := by
      rw [← hp, Nat.mul_comm (2 ^ s), Nat.mul_mod_mul_right]
    rw [e, Nat.add_mul, Nat.add_mul]
    have e2 : lo * 2 ^ s = (lo / 2 ^ (64 - s)) * 18446744073709551616 + lo % 2 ^ (64 - s) * 2 ^ s := by
      conv => lhs; rw [← h2]
      rw [Nat.add_mul, ← hp]
      congr 1
      rw [Nat.mul_comm (2 ^ (64 - s)) (lo / 2 ^ (64 - s)), Nat.mul_assoc, Nat.mul_comm (2 ^ (64 - s))]
    rw [e2]
    have e3 : hi * 18446744073709551616 * 2 ^ s = hi * 2 ^ s * 18446744073709551616 := Nat.mul_right_comm _ _ _
    omega
end Go.Proofs.YtchgjjegcoiepaaDoor
