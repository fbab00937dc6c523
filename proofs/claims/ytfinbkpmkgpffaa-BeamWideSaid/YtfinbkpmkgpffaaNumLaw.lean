/- Fixed point, as plain whole numbers: what bringing into range, a sum that stays, a shift that rounds, a product and a quotient come to. No condition. -/
import Derived.WalkKit
import Derived.Laws.BitsLemmas
namespace Go.Proofs.Ytfinbkpmkgpffaa
open Go Go.RowKit

def clampV (x : Int) : Int := max (min x 2147483647) (-2147483648)
def addV (a b : Int) : Int := max (min (a + b) 9223372036854775807) (-9223372036854775808)
/-- x divided by 2 ^ n, rounded half away from nought -/
def shiftV (x : Int) (n : Nat) : Int := if n = 0 then x else if 0 ≤ x then (x + 2 ^ (n - 1)) / 2 ^ n else -((-x + 2 ^ (n - 1)) / 2 ^ n)
def mulV (a b : Int) : Int := clampV (shiftV (clampV a * clampV b) 16)
def divV (a b : Int) : Int := if clampV b = 0 then (if 0 < clampV a then 2147483647 else if clampV a < 0 then -2147483648 else 0) else clampV ((clampV a * 65536).tdiv (clampV b))
def InI64 (x : Int) : Prop := -9223372036854775808 ≤ x ∧ x ≤ 9223372036854775807

theorem clampV_range (x : Int) : -2147483648 ≤ clampV x ∧ clampV x ≤ 2147483647 := by unfold clampV; omega
theorem clampV_id {x : Int} (h : -2147483648 ≤ x ∧ x ≤ 2147483647) : clampV x = x := by unfold clampV; omega
theorem clampV_clampV (x : Int) : clampV (clampV x) = clampV x := clampV_id (clampV_range x)
theorem addV_range (a b : Int) : InI64 (addV a b) := by unfold InI64 addV; omega
theorem addV_id {a b : Int} (h : InI64 (a + b)) : addV a b = a + b := by unfold InI64 at h; unfold addV; omega
theorem mulV_range (a b : Int) : -2147483648 ≤ mulV a b ∧ mulV a b ≤ 2147483647 := clampV_range _
theorem divV_range (a b : Int) : -2147483648 ≤ divV a b ∧ divV a b ≤ 2147483647 := by
  unfold divV
  split
  · split
    · omega
    · split <;> omega
  · exact clampV_range _
theorem prod_bound {a b A B : Int} (hA : 0 ≤ A) (hB : 0 ≤ B) (ha : -A ≤ a ∧ a ≤ A) (hb : -B ≤ b ∧ b ≤ B) : -(A * B) ≤ a * b ∧ a * b ≤ A * B := by
  have h1 : a.natAbs ≤ A.natAbs := by omega
  have h2 : b.natAbs ≤ B.natAbs := by omega
  have h3 := Nat.mul_le_mul h1 h2
  rw [← Int.natAbs_mul, ← Int.natAbs_mul] at h3
  have h4 : 0 ≤ A * B := Int.mul_nonneg hA hB
  omega
theorem clamp_prod (a b : Int) : -4611686018427387904 ≤ clampV a * clampV b ∧ clampV a * clampV b ≤ 4611686018427387904 := by
  have h1 := clampV_range a
  have h2 := clampV_range b
  have := prod_bound (a := clampV a) (b := clampV b) (A := 2147483648) (B := 2147483648) (by omega) (by omega) (by omega) (by omega)
  omega
theorem clamp_prod_i64 (a b : Int) : InI64 (clampV a * clampV b) := by have := clamp_prod a b; unfold InI64; omega
theorem weight_prod {a b : Int} (ha : -128 ≤ a ∧ a ≤ 127) : InI64 (a * clampV b) := by
  have h2 := clampV_range b
  have := prod_bound (a := a) (b := clampV b) (A := 128) (B := 2147483648) (by omega) (by omega) (by omega) (by omega)
  unfold InI64
  omega

/-! ### halves and remainders -/
theorem ediv_of {P q r : Int} (h0 : 0 ≤ r) (h1 : r < P) : (P * q + r) / P = q := by
  rw [Int.add_comm, Int.add_mul_ediv_left _ _ (by omega), Int.ediv_eq_zero_of_lt h0 h1]
  omega
theorem pow_half {n : Nat} (h : 1 ≤ n) : (2 : Int) ^ n = 2 * 2 ^ (n - 1) ∧ 1 ≤ (2 : Int) ^ (n - 1) := by
  obtain ⟨m, rfl⟩ : ∃ m, n = m + 1 := ⟨n - 1, by omega⟩
  refine ⟨?_, ?_⟩
  · rw [Int.pow_succ, Int.mul_comm]; rfl
  · have := Int.pow_pos (n := 2) (m := m) (by decide)
    show 1 ≤ (2 : Int) ^ m
    omega
theorem pow_le62 {n : Nat} (h : n ≤ 62) : (2 : Int) ^ n ≤ 4611686018427387904 := by
  have : (2 : Nat) ^ n ≤ 2 ^ 62 := Nat.pow_le_pow_right (by decide) h
  have h2 : ((2 ^ n : Nat) : Int) ≤ ((2 ^ 62 : Nat) : Int) := Int.ofNat_le.2 this
  rw [Int.natCast_pow] at h2
  exact h2
theorem shiftV_eq {x : Int} {n : Nat} (h : 1 ≤ n) : shiftV x n = x / 2 ^ n + (if 2 ^ (n - 1) < x % 2 ^ n ∨ (x % 2 ^ n = 2 ^ (n - 1) ∧ 0 < x) then 1 else 0) := by
  obtain ⟨hp, hh⟩ := pow_half h
  rw [shiftV, if_neg (by omega)]
  generalize (2 : Int) ^ (n - 1) = g at *
  generalize hP : (2 : Int) ^ n = P at *
  have hq := Int.mul_ediv_add_emod x P
  have hr0 := Int.emod_nonneg x (b := P) (by omega)
  have hr1 := Int.emod_lt_of_pos x (b := P) (by omega)
  generalize x / P = q at *
  generalize x % P = r at *
  by_cases hx : 0 ≤ x
  · rw [if_pos hx]
    by_cases hc : g < r ∨ (r = g ∧ 0 < x)
    · rw [if_pos hc]
      have e : x + g = P * (q + 1) + (r + g - P) := by rw [Int.mul_add]; omega
      rw [e]
      exact ediv_of (by omega) (by omega)
    · rw [if_neg hc, Int.add_zero]
      have hr : r < g := by
        rcases Int.lt_trichotomy r g with h1 | h1 | h1
        · exact h1
        · exfalso
          have hx0 : x = 0 := by omega
          subst hx0
          have hq0 : q = 0 := by
            rcases Int.lt_trichotomy q 0 with h2 | h2 | h2
            · have : P * q ≤ P * (-1) := Int.mul_le_mul_of_nonneg_left (by omega) (by omega)
              omega
            · exact h2
            · have : P * 1 ≤ P * q := Int.mul_le_mul_of_nonneg_left (by omega) (by omega)
              omega
          rw [hq0] at hq
          omega
        · omega
      have e : x + g = P * q + (r + g) := by omega
      rw [e]
      exact ediv_of (by omega) (by omega)
  · rw [if_neg hx]
    by_cases hc : g < r ∨ (r = g ∧ 0 < x)
    · rw [if_pos hc]
      have e : -x + g = P * (-q - 1) + (P + g - r) := by rw [Int.mul_sub, Int.mul_neg]; omega
      rw [e, ediv_of (by omega) (by omega)]
      omega
    · rw [if_neg hc]
      have e : -x + g = P * (-q) + (g - r) := by rw [Int.mul_neg]; omega
      rw [e, ediv_of (by omega) (by omega)]
      omega
/-- the document's way: of the magnitude m -/
theorem half_up {m : Int} {n : Nat} (h : 1 ≤ n) : (m + 2 ^ (n - 1)) / 2 ^ n = m / 2 ^ n + (if (m / 2 ^ (n - 1)) % 2 = 1 then 1 else 0) := by
  obtain ⟨hp, hh⟩ := pow_half h
  generalize (2 : Int) ^ (n - 1) = g at *
  have e1 : m / 2 ^ n = m / g / 2 := by rw [hp, Int.mul_comm, Int.ediv_ediv_of_nonneg (by omega)]
  have e2 : (m + g) / 2 ^ n = (m / g + 1) / 2 := by
    rw [hp, Int.mul_comm, ← Int.ediv_ediv_of_nonneg (by omega)]
    have e3 : m + g = m + 1 * g := by omega
    rw [e3, Int.add_mul_ediv_right _ _ (by omega)]
  rw [e1, e2]
  generalize m / g = t
  split <;> omega
theorem shiftV_bound {x : Int} {n : Nat} (h : InI64 x) : InI64 (shiftV x n) := by
  unfold InI64 at *
  unfold shiftV
  split
  · exact h
  · rename_i hn
    obtain ⟨hp, hh⟩ := pow_half (n := n) (by omega)
    generalize (2 : Int) ^ (n - 1) = g at *
    rw [hp]
    have key : ∀ y : Int, 0 ≤ y → 0 ≤ (y + g) / (2 * g) ∧ (y + g) / (2 * g) ≤ (y + 1) / 2 := by
      intro y hy
      refine ⟨Int.ediv_nonneg (by omega) (by omega), ?_⟩
      rw [Int.mul_comm, ← Int.ediv_ediv_of_nonneg (by omega)]
      have e3 : y + g = y + 1 * g := by omega
      rw [e3, Int.add_mul_ediv_right _ _ (by omega)]
      have : y / g ≤ y := Int.ediv_le_self _ hy
      omega
    split
    · have := key x (by omega)
      omega
    · have := key (-x) (by omega)
      omega

/-! ### bits -/
theorem bits_xor_i64 (a b : Int) : bits .xor .i64 a b = (BitVec.ofInt 64 a ^^^ BitVec.ofInt 64 b).toInt := by
  rw [BitVec.toInt_eq_toNat_bmod]
  show IntKind.i64.wrap _ = _
  rw [IntKind.wrap_i64]
  show _ = Int.bmod ((BitVec.ofInt 64 a ^^^ BitVec.ofInt 64 b).toNat : Int) 18446744073709551616
  have e : (BitVec.ofInt IntKind.i64.bits a ^^^ BitVec.ofInt IntKind.i64.bits b).toNat = (BitVec.ofInt 64 a ^^^ BitVec.ofInt 64 b).toNat := rfl
  rw [e]
  generalize ((BitVec.ofInt 64 a ^^^ BitVec.ofInt 64 b).toNat : Int) = t
  rw [Int.bmod_def]
  split <;> omega
theorem bits_and_i64 (a b : Int) : bits .and .i64 a b = (BitVec.ofInt 64 a &&& BitVec.ofInt 64 b).toInt := by
  rw [BitVec.toInt_eq_toNat_bmod]
  show IntKind.i64.wrap _ = _
  rw [IntKind.wrap_i64]
  show _ = Int.bmod ((BitVec.ofInt 64 a &&& BitVec.ofInt 64 b).toNat : Int) 18446744073709551616
  have e : (BitVec.ofInt IntKind.i64.bits a &&& BitVec.ofInt IntKind.i64.bits b).toNat = (BitVec.ofInt 64 a &&& BitVec.ofInt 64 b).toNat := rfl
  rw [e]
  generalize ((BitVec.ofInt 64 a &&& BitVec.ofInt 64 b).toNat : Int) = t
  rw [Int.bmod_def]
  split <;> omega
theorem msb_ofInt {a : Int} (h : InI64 a) : (BitVec.ofInt 64 a).msb = decide (a < 0) := by
  unfold InI64 at h
  rw [BitVec.msb_eq_toInt]
  have e : (BitVec.ofInt 64 a).toInt = a := by
    rw [BitVec.toInt_ofInt, Int.bmod_def]
    show (if a % 18446744073709551616 < (18446744073709551616 + 1) / 2 then a % 18446744073709551616 else a % 18446744073709551616 - 18446744073709551616) = a
    split <;> omega
  rw [e]
theorem toInt_nonneg (v : BitVec 64) : 0 ≤ v.toInt ↔ v.msb = false := by
  rw [BitVec.msb_eq_toInt]
  simp
/-- the test of sat.Add -/
theorem sign_test {a b s : Int} (ha : InI64 a) (hb : InI64 b) (hs : InI64 s) : 0 ≤ bits .and .i64 (bits .xor .i64 a s) (bits .xor .i64 b s) ↔ ¬ ((a < 0 ↔ ¬ s < 0) ∧ (b < 0 ↔ ¬ s < 0)) := by
  rw [bits_and_i64, toInt_nonneg, BitVec.msb_and, bits_xor_i64, bits_xor_i64, BitVec.ofInt_toInt, BitVec.ofInt_toInt, BitVec.msb_xor, BitVec.msb_xor, msb_ofInt ha, msb_ofInt hb, msb_ofInt hs]
  by_cases h1 : a < 0 <;> by_cases h2 : b < 0 <;> by_cases h3 : s < 0 <;> simp [h1, h2, h3]
/-- the lower bits of any number -/
theorem mask_i64 (x : Int) {n : Nat} (h : n ≤ 62) : bits .and .i64 x (2 ^ n - 1) = x % 2 ^ n := by
  have hP := pow_le62 h
  have hP1 := Int.pow_pos (n := 2) (m := n) (by decide)
  have hm : ((2 : Int) ^ n - 1) = ((2 ^ n - 1 : Nat) : Int) := by
    rw [Int.natCast_sub (Nat.two_pow_pos n)]; simp
  have hlt : (2 ^ n - 1 : Nat) < 18446744073709551616 := by
    have : (2 : Nat) ^ n ≤ 2 ^ 62 := Nat.pow_le_pow_right (by decide) h
    omega
  have key : ((BitVec.ofInt 64 x &&& BitVec.ofInt 64 (2 ^ n - 1)).toNat : Int) = x % 2 ^ n := by
    rw [BitVec.toNat_and, hm, BitVec.ofInt_natCast, BitVec.toNat_ofNat]
    rw [show (2 : Nat) ^ 64 = 18446744073709551616 from rfl, Nat.mod_eq_of_lt hlt, Nat.and_two_pow_sub_one_eq_mod, BitVec.toNat_ofInt]
    have hx : ((x % ((2 ^ 64 : Nat) : Int)).toNat : Int) = x % ((2 ^ 64 : Nat) : Int) := Int.toNat_of_nonneg (Int.emod_nonneg _ (by decide))
    have hn2 : ((2 ^ n : Nat) : Int) = (2 : Int) ^ n := Int.natCast_pow 2 n
    have h64 : ((2 ^ 64 : Nat) : Int) = (2 : Int) ^ n * 2 ^ (64 - n) := by
      rw [← Int.pow_add, Int.natCast_pow]
      congr 1
      omega
    rw [Int.natCast_emod, hx, hn2]
    exact Int.emod_emod_of_dvd x ⟨_, h64⟩
  rw [bits_and_i64, BitVec.toInt_eq_toNat_bmod, key, Int.bmod_def]
  have h0 := Int.emod_nonneg x (b := 2 ^ n) (by omega)
  have h1 := Int.emod_lt_of_pos x (b := 2 ^ n) (by omega)
  show (if x % 2 ^ n % 18446744073709551616 < (18446744073709551616 + 1) / 2 then x % 2 ^ n % 18446744073709551616 else x % 2 ^ n % 18446744073709551616 - 18446744073709551616) = _
  split <;> omega
end Go.Proofs.Ytfinbkpmkgpffaa
