/- Words of floating point: what they stand for, how they are written, multiplied and compared. No program in sight. No condition but what each states. -/
import Derived.Laws.FloatArith
namespace Go.Proofs.Ytfinbkpmkgpffaa
open Ieee

/-- the sign's weight in a word -/
def sw (s : Bool) : Nat := if s then 9223372036854775808 else 0
theorem sw_div (s : Bool) {r : Nat} (h : r < 9223372036854775808) : ((sw s + r) / 9223372036854775808 % 2 == 1) = s := by
  cases s
  · rw [sw, if_neg (by decide), Nat.zero_add, Nat.div_eq_of_lt h]; rfl
  · rw [sw, if_pos rfl]
    have : (9223372036854775808 + r) / 9223372036854775808 = 1 := by omega
    rw [this]; rfl
theorem sw_mod (s : Bool) {r : Nat} (h : r < 9223372036854775808) : (sw s + r) % 9223372036854775808 = r := by
  cases s
  · rw [sw, if_neg (by decide)]; omega
  · rw [sw, if_pos rfl]; omega
theorem read_eq (s : Bool) {r : Nat} (h : r < 9223372036854775808) : double.read (sw s + r) =
    (if r < 4503599627370496 then .number s r (-1074)
    else if r < 9218868437227405312 then .number s (4503599627370496 + r % 4503599627370496) (-1074 + ((r / 4503599627370496 - 1 : Nat) : Int))
    else if r = 9218868437227405312 then .infinity s else .nan s (r - 9218868437227405312)) := by
  have e1 : double.signWeight = 9223372036854775808 := by decide
  have e2 : double.binade = 4503599627370496 := by decide
  have e3 : double.infRung = 9218868437227405312 := by decide
  have e4 : double.leastPlace = -1074 := by decide
  unfold Format.read
  simp only [e1, e2, e3, e4, sw_div s h, sw_mod s h]
theorem read_sub (s : Bool) {f : Nat} (hf : f < 4503599627370496) : double.read (sw s + f) = .number s f (-1074) := by
  rw [read_eq s (by omega), if_pos hf]
theorem read_normal (s : Bool) {E f : Nat} (h1 : 1 ≤ E) (h2 : E ≤ 2046) (hf : f < 4503599627370496) : double.read (sw s + (E * 4503599627370496 + f)) = .number s (4503599627370496 + f) ((E : Int) - 1075) := by
  have a1 : (E * 4503599627370496 + f) % 4503599627370496 = f := by omega
  have a2 : (E * 4503599627370496 + f) / 4503599627370496 = E := by omega
  rw [read_eq s (by omega), if_neg (by omega), if_pos (by omega), a1, a2]
  congr 1
  omega
theorem read_inf (s : Bool) : double.read (sw s + 9218868437227405312) = .infinity s := by
  rw [read_eq s (by omega), if_neg (by omega), if_neg (by omega), if_pos rfl]
theorem word_parts {x : Nat} (h : x < 18446744073709551616) : ∃ s r, x = sw s + r ∧ r < 9223372036854775808 := by
  by_cases hx : x < 9223372036854775808
  · exact ⟨false, x, by simp [sw], hx⟩
  · exact ⟨true, x - 9223372036854775808, by simp [sw]; omega, by omega⟩
/-- what a word may be -/
inductive WordIs (x : Nat) : Prop
  | zero (s : Bool) (h : x = sw s)
  | sub (s : Bool) (f : Nat) (h : x = sw s + f) (h0 : 0 < f) (hf : f < 4503599627370496)
  | normal (s : Bool) (E f : Nat) (h : x = sw s + (E * 4503599627370496 + f)) (h1 : 1 ≤ E) (h2 : E ≤ 2046) (hf : f < 4503599627370496)
  | inf (s : Bool) (h : x = sw s + 9218868437227405312)
  | nan (s : Bool) (t : Nat) (h : double.read x = .nan s t)
theorem word_is {x : Nat} (h : x < 18446744073709551616) : WordIs x := by
  obtain ⟨s, r, rfl, hr⟩ := word_parts h
  by_cases h0 : r = 0
  · subst h0; exact .zero s rfl
  by_cases h1 : r < 4503599627370496
  · exact .sub s r rfl (by omega) h1
  by_cases h2 : r < 9218868437227405312
  · exact .normal s (r / 4503599627370496) (r % 4503599627370496) (by omega) (by omega) (by omega) (by omega)
  by_cases h3 : r = 9218868437227405312
  · subst h3; exact .inf s rfl
  · refine .nan s (r - 9218868437227405312) ?_
    rw [read_eq s hr, if_neg h1, if_neg h2, if_neg h3]

theorem cut_all (way : Bool) (m a : Nat) (hm : m ≠ 0) : Toward.even.cut way (m <<< a) a = m := by
  have hlog : (m <<< a).log2 = m.log2 + a := by
    rw [Nat.shiftLeft_eq]
    refine (Nat.log2_eq_iff (Nat.mul_ne_zero hm (by have := Nat.two_pow_pos a; omega))).2 ⟨?_, ?_⟩
    · rw [Nat.pow_add]; exact Nat.mul_le_mul_right _ (Nat.log2_self_le hm)
    · rw [show m.log2 + a + 1 = m.log2 + 1 + a from by omega, Nat.pow_add]
      exact (Nat.mul_lt_mul_right (Nat.two_pow_pos a)).2 Nat.lt_log2_self
  have hg : 1 <<< min a ((m <<< a).log2 + 2) = 2 ^ a := by
    rw [hlog, Nat.min_eq_left (by omega), Nat.shiftLeft_eq, Nat.one_mul]
  have h1 : m <<< a / 2 ^ a = m := by rw [Nat.shiftLeft_eq, Nat.mul_div_cancel _ (Nat.two_pow_pos a)]
  have h2 : m <<< a % 2 ^ a = 0 := by rw [Nat.shiftLeft_eq, Nat.mul_mod_left]
  have h3 := Nat.two_pow_pos a
  unfold Toward.cut
  simp only [hg, h1, h2, Nat.mul_zero, Nat.not_lt_zero, decide_false, Bool.false_or]
  have h4 : (2 ^ a == 0) = false := beq_eq_false_iff_ne.2 (by omega)
  rw [h4]; rfl
theorem cut_none (neg : Bool) (m : Nat) : Toward.even.cut neg m 0 = m := by
  unfold Toward.cut
  simp [Nat.mod_one]
theorem log_of {m : Nat} (h1 : 4503599627370496 ≤ m) (h2 : m < 9007199254740992) : m.log2 = 52 := (Nat.log2_eq_iff (by omega)).2 ⟨by omega, by omega⟩
theorem log_shl {m : Nat} (a : Nat) (hm : m ≠ 0) : (m <<< a).log2 = m.log2 + a := by
  rw [Nat.shiftLeft_eq]
  refine (Nat.log2_eq_iff (Nat.mul_ne_zero hm (by have := Nat.two_pow_pos a; omega))).2 ⟨?_, ?_⟩
  · rw [Nat.pow_add]; exact Nat.mul_le_mul_right _ (Nat.log2_self_le hm)
  · rw [show m.log2 + a + 1 = m.log2 + 1 + a from by omega, Nat.pow_add]
    exact (Nat.mul_lt_mul_right (Nat.two_pow_pos a)).2 Nat.lt_log2_self
/-- a number that the format has: its mantissa times a power of two -/
theorem nearest_up (s : Bool) {m : Nat} (h1 : 4503599627370496 ≤ m) (h2 : m < 9007199254740992) (a : Nat) {q p : Int} (hp : p = q - a) (hq : -1074 ≤ q) (hq2 : q ≤ 971) :
    double.nearest s (m <<< a) p = sw s + ((q + 1074).toNat * 4503599627370496 + m) := by
  have e1 : double.signWeight = 9223372036854775808 := by decide
  have e2 : double.binade = 4503599627370496 := by decide
  have e3 : double.infRung = 9218868437227405312 := by decide
  have e4 : double.leastPlace = -1074 := by decide
  have e5 : double.fractionBits = 52 := rfl
  have hm : m ≠ 0 := by omega
  have hl : max (p + ((m <<< a).log2 : Nat) - (52 : Nat)) (-1074) = q := by rw [log_shl a hm, log_of h1 h2]; omega
  unfold Format.nearest
  rw [if_neg (by rw [Nat.shiftLeft_eq]; have := Nat.two_pow_pos a; exact Nat.mul_ne_zero hm (by omega))]
  simp only [e2, e3, e4, e5, hl]
  have a1 : (p - q).toNat = 0 := by omega
  have a2 : (q - p).toNat = a := by omega
  have a3 : (q - -1074).toNat = (q + 1074).toNat := by omega
  rw [a1, a2, a3, Nat.shiftLeft_zero, cut_all s m a hm]
  unfold Format.word
  rw [e1, Nat.min_eq_left (by omega)]
  cases s <;> simp [sw]
theorem nearest_down (s : Bool) {m n : Nat} (h1 : 4503599627370496 ≤ m) (h2 : m < 9007199254740992) (a : Nat) (hn : m = n <<< a) {q p : Int} (hp : p = q + a) (hq : -1074 ≤ q) (hq2 : q ≤ 971) :
    double.nearest s n p = sw s + ((q + 1074).toNat * 4503599627370496 + m) := by
  have e1 : double.signWeight = 9223372036854775808 := by decide
  have e2 : double.binade = 4503599627370496 := by decide
  have e3 : double.infRung = 9218868437227405312 := by decide
  have e4 : double.leastPlace = -1074 := by decide
  have e5 : double.fractionBits = 52 := rfl
  have hn0 : n ≠ 0 := by intro h; subst h; rw [Nat.shiftLeft_eq] at hn; omega
  have hlog := log_shl a hn0
  rw [← hn, log_of h1 h2] at hlog
  have hl : max (p + (n.log2 : Nat) - (52 : Nat)) (-1074) = q := by omega
  unfold Format.nearest
  rw [if_neg hn0]
  simp only [e2, e3, e4, e5, hl]
  have a1 : (p - q).toNat = a := by omega
  have a2 : (q - p).toNat = 0 := by omega
  have a3 : (q - -1074).toNat = (q + 1074).toNat := by omega
  rw [a1, a2, a3, ← hn, cut_none]
  unfold Format.word
  rw [e1, Nat.min_eq_left (by omega)]
  cases s <;> simp [sw]

theorem mul_words {c x : Nat} {s : Bool} {m : Nat} {i j : Int} (hc : double.read c = .number false 4503599627370496 j) (hx : double.read x = .number s m i) (h1 : 4503599627370496 ≤ m) (h2 : m < 9007199254740992) (hq : -1074 ≤ i + j + 52) (hq2 : i + j + 52 ≤ 971) :
    double.mul c x = some (sw s + ((i + j + 52 + 1074).toNat * 4503599627370496 + m)) := by
  unfold Format.mul
  rw [hc, hx]
  show some (double.nearest (false ^^ s) (4503599627370496 * m) (j + i)) = _
  have e : 4503599627370496 * m = m <<< 52 := by rw [Nat.shiftLeft_eq]; omega
  rw [e, nearest_up (q := i + j + 52) (false ^^ s) h1 h2 52 (by omega) hq hq2, Bool.false_xor]
theorem mul_words_right {c x : Nat} {s : Bool} {m : Nat} {i j : Int} (hc : double.read c = .number false 4503599627370496 j) (hx : double.read x = .number s m i) (h1 : 4503599627370496 ≤ m) (h2 : m < 9007199254740992) (hq : -1074 ≤ i + j + 52) (hq2 : i + j + 52 ≤ 971) :
    double.mul x c = some (sw s + ((i + j + 52 + 1074).toNat * 4503599627370496 + m)) := by
  unfold Format.mul
  rw [hc, hx]
  show some (double.nearest (s ^^ false) (m * 4503599627370496) (i + j)) = _
  have e : m * 4503599627370496 = m <<< 52 := by rw [Nat.shiftLeft_eq]
  rw [e, nearest_up (q := i + j + 52) (s ^^ false) h1 h2 52 (by omega) hq hq2, Bool.xor_false]

theorem ford_num {x y : Nat} {s t : Bool} {m n : Nat} {i j : Int} (h : double.read x = .number s m i) (h' : double.read y = .number t n j) :
    double.order x y = some (compare (signed s m (i - min i j).toNat) (signed t n (j - min i j).toNat)) := by
  unfold Format.order
  rw [h, h']
  rfl
theorem compare_lt {a b : Int} (h : a < b) : compare a b = .lt := by show compareOfLessAndEq a b = _; unfold compareOfLessAndEq; rw [if_pos h]
theorem compare_eq {a b : Int} (h : a = b) : compare a b = .eq := by show compareOfLessAndEq a b = _; unfold compareOfLessAndEq; rw [if_neg (by omega), if_pos h]
theorem compare_gt {a b : Int} (h : b < a) : compare a b = .gt := by show compareOfLessAndEq a b = _; unfold compareOfLessAndEq; rw [if_neg (by omega), if_neg (by omega)]
theorem signed_pos (m k : Nat) : signed false m k = ((m * 2 ^ k : Nat) : Int) := by unfold signed; rw [if_neg (by decide), Nat.shiftLeft_eq]
theorem signed_neg (m k : Nat) : signed true m k = -((m * 2 ^ k : Nat) : Int) := by unfold signed; rw [if_pos rfl, Nat.shiftLeft_eq]
theorem pos_shift {m : Nat} (h : 0 < m) (k : Nat) : 0 < m * 2 ^ k := Nat.mul_pos h (Nat.two_pow_pos k)
theorem ford_zero {x : Nat} {s : Bool} {m : Nat} {i : Int} (h : double.read x = .number s m i) (hm : 0 < m) : double.order x 0 = some (if s then .lt else .gt) := by
  rw [ford_num h (show double.read 0 = .number false 0 (-1074) from by decide)]
  have h0 : signed false 0 (-1074 - min i (-1074)).toNat = 0 := by rw [signed_pos, Nat.zero_mul]; rfl
  rw [h0]
  have h1 := pos_shift hm (i - min i (-1074)).toNat
  cases s
  · rw [signed_pos, if_neg (by decide), compare_gt (by omega)]
  · rw [signed_neg, if_pos rfl, compare_lt (by omega)]
/-- a number against a number that stands at a lesser or the same place -/
theorem ford_at {x y : Nat} {s t : Bool} {m n : Nat} {i j : Int} (h : double.read x = .number s m i) (h' : double.read y = .number t n j) (k : Nat) (hij : i = j + k) :
    double.order x y = some (compare (signed s m k) (signed t n 0)) := by
  rw [ford_num h h']
  have a1 : (i - min i j).toNat = k := by omega
  have a2 : (j - min i j).toNat = 0 := by omega
  rw [a1, a2]
theorem ford_low {x y : Nat} {s t : Bool} {m n : Nat} {i j : Int} (h : double.read x = .number s m i) (h' : double.read y = .number t n j) (k : Nat) (hij : j = i + k) :
    double.order x y = some (compare (signed s m 0) (signed t n k)) := by
  rw [ford_num h h']
  have a1 : (i - min i j).toNat = 0 := by omega
  have a2 : (j - min i j).toNat = k := by omega
  rw [a1, a2]
end Go.Proofs.Ytfinbkpmkgpffaa
