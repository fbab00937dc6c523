/- Words of floating point: what they stand for, how they are written, multiplied and compared. No program in sight. No condition but what each states. -/
import Derived.Laws.FloatArith
import Derived.Laws.BitsAll
import Derived.Laws.Bits64
import Derived.IntWalk
namespace Go.Proofs.Ytfinbkpmkgpffaa
open Go.RowKit Ieee

/-- the sign's weight in a word -/
def sw (s : Bool) : Nat := if s then 9223372036854775808 else 0
theorem sw_div (s : Bool) {r : Nat} (h : r < 9223372036854775808) : ((sw s + r) / 9223372036854775808 % 2 == 1) = s := by
  cases s
  · rw [sw, if_neg (by decide), Nat.zero_add, Nat.div_eq_of_lt h]; rfl
  · rw [sw, if_pos rfl]
    have : (9223372036854775808 + r) / 9223372036854775808 = 1 := by omega
    rw [this]; rfl
theorem sw_mod (s : Bool) {r : Nat} (h : r < 9223372036854775808) : (sw s + r) % 9223372036854775808 = r := by
  cases s
  · rw [sw, if_neg (by decide)]; omega
  · rw [sw, if_pos rfl]; omega
theorem read_eq (s : Bool) {r : Nat} (h : r < 9223372036854775808) : double.read (sw s + r) =
    (if r < 4503599627370496 then .number s r (-1074)
    else if r < 9218868437227405312 then .number s (4503599627370496 + r % 4503599627370496) (-1074 + ((r / 4503599627370496 - 1 : Nat) : Int))
    else if r = 9218868437227405312 then .infinity s else .nan s (r - 9218868437227405312)) := by
  have e1 : double.signWeight = 9223372036854775808 := by decide
  have e2 : double.binade = 4503599627370496 := by decide
  have e3 : double.infRung = 9218868437227405312 := by decide
  have e4 : double.leastPlace = -1074 := by decide
  unfold Format.read
  simp only [e1, e2, e3, e4, sw_div s h, sw_mod s h]
theorem read_sub (s : Bool) {f : Nat} (hf : f < 4503599627370496) : double.read (sw s + f) = .number s f (-1074) := by
  rw [read_eq s (by omega), if_pos hf]
theorem read_normal (s : Bool) {E f : Nat} (h1 : 1 ≤ E) (h2 : E ≤ 2046) (hf : f < 4503599627370496) : double.read (sw s + (E * 4503599627370496 + f)) = .number s (4503599627370496 + f) ((E : Int) - 1075) := by
  have a1 : (E * 4503599627370496 + f) % 4503599627370496 = f := by omega
  have a2 : (E * 4503599627370496 + f) / 4503599627370496 = E := by omega
  rw [read_eq s (by omega), if_neg (by omega), if_pos (by omega), a1, a2]
  congr 1
  omega
theorem read_inf (s : Bool) : double.read (sw s + 9218868437227405312) = .infinity s := by
  rw [read_eq s (by omega), if_neg (by omega), if_neg (by omega), if_pos rfl]
theorem word_parts {x : Nat} (h : x < 18446744073709551616) : ∃ s r, x = sw s + r ∧ r < 9223372036854775808 := by
  by_cases hx : x < 9223372036854775808
  · exact ⟨false, x, by simp [sw], hx⟩
  · exact ⟨true, x - 9223372036854775808, by simp [sw]; omega, by omega⟩
/-- what a word may be -/
inductive WordIs (x : Nat) : Prop
  | zero (s : Bool) (h : x = sw s)
  | sub (s : Bool) (f : Nat) (h : x = sw s + f) (h0 : 0 < f) (hf : f < 4503599627370496)
  | normal (s : Bool) (E f : Nat) (h : x = sw s + (E * 4503599627370496 + f)) (h1 : 1 ≤ E) (h2 : E ≤ 2046) (hf : f < 4503599627370496)
  | inf (s : Bool) (h : x = sw s + 9218868437227405312)
  | nan (s : Bool) (t : Nat) (h : double.read x = .nan s t)
theorem word_is {x : Nat} (h : x < 18446744073709551616) : WordIs x := by
  obtain ⟨s, r, rfl, hr⟩ := word_parts h
  by_cases h0 : r = 0
  · subst h0; exact .zero s rfl
  by_cases h1 : r < 4503599627370496
  · exact .sub s r rfl (by omega) h1
  by_cases h2 : r < 9218868437227405312
  · exact .normal s (r / 4503599627370496) (r % 4503599627370496) (by omega) (by omega) (by omega) (by omega)
  by_cases h3 : r = 9218868437227405312
  · subst h3; exact .inf s rfl
  · refine .nan s (r - 9218868437227405312) ?_
    rw [read_eq s hr, if_neg h1, if_neg h2, if_neg h3]

theorem cut_all (way : Bool) (m a : Nat) (hm : m ≠ 0) : Toward.even.cut way (m <<< a) a = m := by
  have hlog : (m <<< a).log2 = m.log2 + a := by
    rw [Nat.shiftLeft_eq]
    refine (Nat.log2_eq_iff (Nat.mul_ne_zero hm (by have := Nat.two_pow_pos a; omega))).2 ⟨?_, ?_⟩
    · rw [Nat.pow_add]; exact Nat.mul_le_mul_right _ (Nat.log2_self_le hm)
    · rw [show m.log2 + a + 1 = m.log2 + 1 + a from by omega, Nat.pow_add]
      exact (Nat.mul_lt_mul_right (Nat.two_pow_pos a)).2 Nat.lt_log2_self
  have hg : 1 <<< min a ((m <<< a).log2 + 2) = 2 ^ a := by
    rw [hlog, Nat.min_eq_left (by omega), Nat.shiftLeft_eq, Nat.one_mul]
  have h1 : m <<< a / 2 ^ a = m := by rw [Nat.shiftLeft_eq, Nat.mul_div_cancel _ (Nat.two_pow_pos a)]
  have h2 : m <<< a % 2 ^ a = 0 := by rw [Nat.shiftLeft_eq, Nat.mul_mod_left]
  have h3 := Nat.two_pow_pos a
  unfold Toward.cut
  simp only [hg, h1, h2, Nat.mul_zero, Nat.not_lt_zero, decide_false, Bool.false_or]
  have h4 : (2 ^ a == 0) = false := beq_eq_false_iff_ne.2 (by omega)
  rw [h4]; rfl
theorem cut_none (neg : Bool) (m : Nat) : Toward.even.cut neg m 0 = m := by
  unfold Toward.cut
  simp [Nat.mod_one]
theorem log_of {m : Nat} (h1 : 4503599627370496 ≤ m) (h2 : m < 9007199254740992) : m.log2 = 52 := (Nat.log2_eq_iff (by omega)).2 ⟨by omega, by omega⟩
theorem log_shl {m : Nat} (a : Nat) (hm : m ≠ 0) : (m <<< a).log2 = m.log2 + a := by
  rw [Nat.shiftLeft_eq]
  refine (Nat.log2_eq_iff (Nat.mul_ne_zero hm (by have := Nat.two_pow_pos a; omega))).2 ⟨?_, ?_⟩
  · rw [Nat.pow_add]; exact Nat.mul_le_mul_right _ (Nat.log2_self_le hm)
  · rw [show m.log2 + a + 1 = m.log2 + 1 + a from by omega, Nat.pow_add]
    exact (Nat.mul_lt_mul_right (Nat.two_pow_pos a)).2 Nat.lt_log2_self
/-- a number that the format has: its mantissa times a power of two -/
theorem nearest_up (s : Bool) {m : Nat} (h1 : 4503599627370496 ≤ m) (h2 : m < 9007199254740992) (a : Nat) {q p : Int} (hp : p = q - a) (hq : -1074 ≤ q) (hq2 : q ≤ 971) :
    double.nearest s (m <<< a) p = sw s + ((q + 1074).toNat * 4503599627370496 + m) := by
  have e1 : double.signWeight = 9223372036854775808 := by decide
  have e2 : double.binade = 4503599627370496 := by decide
  have e3 : double.infRung = 9218868437227405312 := by decide
  have e4 : double.leastPlace = -1074 := by decide
  have e5 : double.fractionBits = 52 := rfl
  have hm : m ≠ 0 := by omega
  have hl : max (p + ((m <<< a).log2 : Nat) - (52 : Nat)) (-1074) = q := by rw [log_shl a hm, log_of h1 h2]; omega
  unfold Format.nearest
  rw [if_neg (by rw [Nat.shiftLeft_eq]; have := Nat.two_pow_pos a; exact Nat.mul_ne_zero hm (by omega))]
  simp only [e2, e3, e4, e5, hl]
  have a1 : (p - q).toNat = 0 := by omega
  have a2 : (q - p).toNat = a := by omega
  have a3 : (q - -1074).toNat = (q + 1074).toNat := by omega
  rw [a1, a2, a3, Nat.shiftLeft_zero, cut_all s m a hm]
  unfold Format.word
  rw [e1, Nat.min_eq_left (by omega)]
  cases s <;> simp [sw]
theorem nearest_down (s : Bool) {m n : Nat} (h1 : 4503599627370496 ≤ m) (h2 : m < 9007199254740992) (a : Nat) (hn : m = n <<< a) {q p : Int} (hp : p = q + a) (hq : -1074 ≤ q) (hq2 : q ≤ 971) :
    double.nearest s n p = sw s + ((q + 1074).toNat * 4503599627370496 + m) := by
  have e1 : double.signWeight = 9223372036854775808 := by decide
  have e2 : double.binade = 4503599627370496 := by decide
  have e3 : double.infRung = 9218868437227405312 := by decide
  have e4 : double.leastPlace = -1074 := by decide
  have e5 : double.fractionBits = 52 := rfl
  have hn0 : n ≠ 0 := by intro h; subst h; rw [Nat.shiftLeft_eq] at hn; omega
  have hlog := log_shl a hn0
  rw [← hn, log_of h1 h2] at hlog
  have hl : max (p + (n.log2 : Nat) - (52 : Nat)) (-1074) = q := by omega
  unfold Format.nearest
  rw [if_neg hn0]
  simp only [e2, e3, e4, e5, hl]
  have a1 : (p - q).toNat = a := by omega
  have a2 : (q - p).toNat = 0 := by omega
  have a3 : (q - -1074).toNat = (q + 1074).toNat := by omega
  rw [a1, a2, a3, ← hn, cut_none]
  unfold Format.word
  rw [e1, Nat.min_eq_left (by omega)]
  cases s <;> simp [sw]

theorem mul_words {c x : Nat} {s : Bool} {m : Nat} {i j : Int} (hc : double.read c = .number false 4503599627370496 j) (hx : double.read x = .number s m i) (h1 : 4503599627370496 ≤ m) (h2 : m < 9007199254740992) (hq : -1074 ≤ i + j + 52) (hq2 : i + j + 52 ≤ 971) :
    double.mul c x = some (sw s + ((i + j + 52 + 1074).toNat * 4503599627370496 + m)) := by
  unfold Format.mul
  rw [hc, hx]
  show some (double.nearest (false ^^ s) (4503599627370496 * m) (j + i)) = _
  have e : 4503599627370496 * m = m <<< 52 := by rw [Nat.shiftLeft_eq]; omega
  rw [e, nearest_up (q := i + j + 52) (false ^^ s) h1 h2 52 (by omega) hq hq2, Bool.false_xor]
theorem mul_words_right {c x : Nat} {s : Bool} {m : Nat} {i j : Int} (hc : double.read c = .number false 4503599627370496 j) (hx : double.read x = .number s m i) (h1 : 4503599627370496 ≤ m) (h2 : m < 9007199254740992) (hq : -1074 ≤ i + j + 52) (hq2 : i + j + 52 ≤ 971) :
    double.mul x c = some (sw s + ((i + j + 52 + 1074).toNat * 4503599627370496 + m)) := by
  unfold Format.mul
  rw [hc, hx]
  show some (double.nearest (s ^^ false) (m * 4503599627370496) (i + j)) = _
  have e : m * 4503599627370496 = m <<< 52 := by rw [Nat.shiftLeft_eq]
  rw [e, nearest_up (q := i + j + 52) (s ^^ false) h1 h2 52 (by omega) hq hq2, Bool.xor_false]

theorem ford_num {x y : Nat} {s t : Bool} {m n : Nat} {i j : Int} (h : double.read x = .number s m i) (h' : double.read y = .number t n j) :
    double.order x y = some (compare (signed s m (i - min i j).toNat) (signed t n (j - min i j).toNat)) := by
  unfold Format.order
  rw [h, h']
  rfl
theorem compare_lt {a b : Int} (h : a < b) : compare a b = .lt := by show compareOfLessAndEq a b = _; unfold compareOfLessAndEq; rw [if_pos h]
theorem compare_eq {a b : Int} (h : a = b) : compare a b = .eq := by show compareOfLessAndEq a b = _; unfold compareOfLessAndEq; rw [if_neg (by omega), if_pos h]
theorem compare_gt {a b : Int} (h : b < a) : compare a b = .gt := by show compareOfLessAndEq a b = _; unfold compareOfLessAndEq; rw [if_neg (by omega), if_neg (by omega)]
theorem signed_pos (m k : Nat) : signed false m k = ((m * 2 ^ k : Nat) : Int) := by unfold signed; rw [if_neg (by decide), Nat.shiftLeft_eq]
theorem signed_neg (m k : Nat) : signed true m k = -((m * 2 ^ k : Nat) : Int) := by unfold signed; rw [if_pos rfl, Nat.shiftLeft_eq]
theorem pos_shift {m : Nat} (h : 0 < m) (k : Nat) : 0 < m * 2 ^ k := Nat.mul_pos h (Nat.two_pow_pos k)
theorem ford_zero {x : Nat} {s : Bool} {m : Nat} {i : Int} (h : double.read x = .number s m i) (hm : 0 < m) : double.order x 0 = some (if s then .lt else .gt) := by
  rw [ford_num h (show double.read 0 = .number false 0 (-1074) from by decide)]
  have h0 : signed false 0 (-1074 - min i (-1074)).toNat = 0 := by rw [signed_pos, Nat.zero_mul]; rfl
  rw [h0]
  have h1 := pos_shift hm (i - min i (-1074)).toNat
  cases s
  · rw [signed_pos, if_neg (by decide), compare_gt (by omega)]
  · rw [signed_neg, if_pos rfl, compare_lt (by omega)]
/-- a number against a number that stands at a lesser or the same place -/
theorem ford_at {x y : Nat} {s t : Bool} {m n : Nat} {i j : Int} (h : double.read x = .number s m i) (h' : double.read y = .number t n j) (k : Nat) (hij : i = j + k) :
    double.order x y = some (compare (signed s m k) (signed t n 0)) := by
  rw [ford_num h h']
  have a1 : (i - min i j).toNat = k := by omega
  have a2 : (j - min i j).toNat = 0 := by omega
  rw [a1, a2]
theorem ford_low {x y : Nat} {s t : Bool} {m n : Nat} {i j : Int} (h : double.read x = .number s m i) (h' : double.read y = .number t n j) (k : Nat) (hij : j = i + k) :
    double.order x y = some (compare (signed s m 0) (signed t n k)) := by
  rw [ford_num h h']
  have a1 : (i - min i j).toNat = 0 := by omega
  have a2 : (j - min i j).toNat = k := by omega
  rw [a1, a2]
/-- a word made whole -/
def evenN (y : Nat) : Nat := Ieee.double.write ((Ieee.double.read y).integral .even)
def minF (x y : Nat) : Nat := match Ieee.double.order x y with
  | none => 0
  | some .lt => x
  | some .gt => y
  | some .eq => if (Ieee.double.read x).neg then x else y
def maxF (x y : Nat) : Nat := match Ieee.double.order x y with
  | none => 0
  | some .lt => y
  | some .gt => x
  | some .eq => if (Ieee.double.read x).neg then y else x
/-- what is made of a product: 4746794007244308480 is the greatest number of 32 bits, 13970166044103278592 the least -/
structure FixOf (y : Nat) (n : Int) : Prop where
  nan : (Ieee.double.read y).isNaN = false
  o1 : (Ieee.double.order (evenN y) 4746794007244308480).isSome = true
  o2 : (Ieee.double.order (minF (evenN y) 4746794007244308480) 13970166044103278592).isSome = true
  val : floatToIntVal .f64 (maxF (minF (evenN y) 4746794007244308480) 13970166044103278592) .i64 = some n

theorem fixOf_zero {y : Nat} (s : Bool) (hn : (double.read y).isNaN = false) (h : evenN y = sw s) : FixOf y 0 := by
  cases s <;> exact ⟨hn, by rw [h]; decide +kernel, by rw [h]; decide +kernel, by rw [h]; decide +kernel⟩
theorem fixOf_inf (s : Bool) : FixOf (sw s + 9218868437227405312) (if s then -2147483648 else 2147483647) := by
  cases s <;> exact ⟨by decide +kernel, by decide +kernel, by decide +kernel, by decide +kernel⟩
theorem nearest_zero (s : Bool) (p : Int) : double.nearest s 0 p = sw s := by
  unfold Format.nearest
  rw [if_pos rfl]
  cases s <;> decide
/-- what lies below a half is made nought -/
theorem cut_small (s : Bool) {m d : Nat} (hm : m < 9007199254740992) (hd : 54 ≤ d) : Toward.even.cut s m d = 0 := by
  have hl : m.log2 + 2 ≤ 54 := by
    by_cases h0 : m = 0
    · subst h0; decide
    · have := (Nat.log2_lt (k := 53) h0).2 (by omega)
      omega
  have hg : 1 <<< min d (m.log2 + 2) = 2 ^ (m.log2 + 2) := by rw [Nat.min_eq_right (by omega), Nat.shiftLeft_eq, Nat.one_mul]
  have h1 : m < 2 ^ (m.log2 + 1) := Nat.lt_log2_self
  have h2 : 2 ^ (m.log2 + 2) = 2 ^ (m.log2 + 1) * 2 := Nat.pow_succ ..
  unfold Toward.cut
  simp only [hg]
  rw [Nat.div_eq_of_lt (by omega), Nat.mod_eq_of_lt (by omega)]
  have h3 : decide (2 ^ (m.log2 + 2) < 2 * m) = false := decide_eq_false (by omega)
  have h4 : (2 ^ (m.log2 + 2) == 2 * m) = false := beq_eq_false_iff_ne.2 (by omega)
  rw [h3, h4]
  rfl
theorem even_small {y : Nat} {s : Bool} {m : Nat} {i : Int} (h : double.read y = .number s m i) (hm : m < 9007199254740992) (hi : i ≤ -54) : evenN y = sw s := by
  unfold evenN
  rw [h]
  show double.nearest s (Toward.even.cut s (m <<< i.toNat) (-i).toNat) 0 = _
  have a1 : i.toNat = 0 := by omega
  rw [a1, Nat.shiftLeft_zero, cut_small s hm (by omega), nearest_zero]
theorem fixOf_small {y : Nat} {s : Bool} {m : Nat} {i : Int} (h : double.read y = .number s m i) (hm : m < 9007199254740992) (hi : i ≤ -54) : FixOf y 0 :=
  fixOf_zero s (by rw [h]; rfl) (even_small h hm hi)
/-- to the nearest, between two the even one -/
def roundN (m d : Nat) : Nat := m / 2 ^ d + (if 2 ^ d < 2 * (m % 2 ^ d) ∨ (2 ^ d = 2 * (m % 2 ^ d) ∧ m / 2 ^ d % 2 = 1) then 1 else 0)
theorem cut_mid (s : Bool) {m d : Nat} (h1 : 4503599627370496 ≤ m) (h2 : m < 9007199254740992) (hd : d ≤ 53) : Toward.even.cut s m d = roundN m d := by
  have hg : 1 <<< min d (m.log2 + 2) = 2 ^ d := by rw [log_of h1 h2, Nat.min_eq_left (by omega), Nat.shiftLeft_eq, Nat.one_mul]
  unfold Toward.cut roundN
  simp only [hg]
  generalize m % 2 ^ d = r
  generalize m / 2 ^ d = l
  generalize 2 ^ d = g
  congr 1
  by_cases c1 : g < 2 * r
  · rw [if_pos (.inl c1), decide_eq_true c1]; rfl
  · rw [decide_eq_false c1]
    by_cases c2 : g = 2 * r ∧ l % 2 = 1
    · rw [if_pos (.inr c2)]
      have e1 : (g == 2 * r) = true := beq_iff_eq.2 c2.1
      have e2 : (l % 2 == 1) = true := beq_iff_eq.2 c2.2
      rw [e1, e2]; rfl
    · rw [if_neg (by omega)]
      by_cases c3 : g = 2 * r
      · have e1 : (g == 2 * r) = true := beq_iff_eq.2 c3
        have e2 : (l % 2 == 1) = false := beq_eq_false_iff_ne.2 (by omega)
        rw [e1, e2]; rfl
      · have e1 : (g == 2 * r) = false := beq_eq_false_iff_ne.2 c3
        rw [e1]; rfl
/-- a whole number that the format has, from 1 on: how it reads -/
theorem whole_read (s : Bool) {N : Nat} (h0 : 0 < N) (h1 : N < 9007199254740992) :
    ∃ a m : Nat, a ≤ 52 ∧ m = N * 2 ^ a ∧ 4503599627370496 ≤ m ∧ m < 9007199254740992 ∧ double.nearest s N 0 = sw s + ((1075 - a) * 4503599627370496 + (m - 4503599627370496)) ∧ double.read (double.nearest s N 0) = .number s m (-(a : Int)) := by
  have hl : N.log2 < 53 := (Nat.log2_lt (by omega)).2 (by omega)
  have e1 : 2 ^ N.log2 ≤ N := Nat.log2_self_le (by omega)
  have e2 : N < 2 ^ (N.log2 + 1) := Nat.lt_log2_self
  obtain ⟨a, ha⟩ : ∃ a, a = 52 - N.log2 := ⟨_, rfl⟩
  have p1 : 2 ^ N.log2 * 2 ^ a = 4503599627370496 := by rw [← Nat.pow_add, show N.log2 + a = 52 from by omega]
  have p2 : 2 ^ (N.log2 + 1) * 2 ^ a = 9007199254740992 := by rw [← Nat.pow_add, show N.log2 + 1 + a = 53 from by omega]
  have hp := Nat.two_pow_pos a
  have m1 : 4503599627370496 ≤ N * 2 ^ a := by rw [← p1]; exact Nat.mul_le_mul_right _ e1
  have m2 : N * 2 ^ a < 9007199254740992 := by rw [← p2]; exact (Nat.mul_lt_mul_right hp).2 e2
  have hn := nearest_down (q := -(a : Int)) (p := 0) (n := N) s m1 m2 a (by rw [Nat.shiftLeft_eq]) (by omega) (by omega) (by omega)
  have hE : ((-(a : Int) + 1074).toNat * 4503599627370496 + N * 2 ^ a) = ((1075 - a) * 4503599627370496 + (N * 2 ^ a - 4503599627370496)) := by
    have : (-(a : Int) + 1074).toNat = 1074 - a := by omega
    rw [this]
    omega
  rw [hE] at hn
  refine ⟨a, N * 2 ^ a, by omega, rfl, m1, m2, hn, ?_⟩
  rw [hn, read_normal s (by omega) (by omega) (by omega)]
  rw [show 4503599627370496 + (N * 2 ^ a - 4503599627370496) = N * 2 ^ a from by omega, show (((1075 - a : Nat) : Int)) - 1075 = -(a : Int) from by omega]
theorem toInt_whole {z : Nat} {s : Bool} {N a : Nat} (h : double.read z = .number s (N * 2 ^ a) (-(a : Int))) (ha : a ≤ 52) (h1 : 4503599627370496 ≤ N * 2 ^ a) (h2 : N * 2 ^ a < 9007199254740992) :
    (double.read z).toInt .zero = some (if s then -(N : Int) else (N : Int)) := by
  have a1 : (-(a : Int)).toNat = 0 := by omega
  have a2 : (-(-(a : Int))).toNat = a := by omega
  have hg : 1 <<< min a ((N * 2 ^ a).log2 + 2) = 2 ^ a := by rw [log_of h1 h2, Nat.min_eq_left (by omega), Nat.shiftLeft_eq, Nat.one_mul]
  have hc : Toward.zero.cut s (N * 2 ^ a) a = N := by
    unfold Toward.cut
    simp only [hg]
    rw [Nat.mul_div_cancel _ (Nat.two_pow_pos a)]
    rfl
  rw [h]
  unfold Datum.toInt
  show some (signed s (Toward.zero.cut s ((N * 2 ^ a) <<< (-(a : Int)).toNat) (-(-(a : Int))).toNat) 0) = _
  rw [a1, a2, Nat.shiftLeft_zero, hc]
  cases s
  · rw [signed_pos, Nat.pow_zero, Nat.mul_one]; rfl
  · rw [signed_neg, Nat.pow_zero, Nat.mul_one]; rfl
theorem read_max : double.read 4746794007244308480 = .number false 9007199250546688 (-22) := by decide +kernel
theorem read_min : double.read 13970166044103278592 = .number true 4503599627370496 (-21) := by decide +kernel
/-- what goes beyond 32 bits -/
theorem fixOf_big {y : Nat} {s : Bool} {m : Nat} {p : Int} (hn : (double.read y).isNaN = false) (h : double.read (evenN y) = .number s m p) (h1 : 4503599627370496 ≤ m) (hp : -21 ≤ p) :
    FixOf y (if s then -2147483648 else 2147483647) := by
  have ho := ford_at h read_max (p + 22).toNat (by omega)
  have k1 : m * 2 ^ 1 ≤ m * 2 ^ (p + 22).toNat := Nat.mul_le_mul_left _ (Nat.pow_le_pow_right (by decide) (by omega))
  cases s
  · rw [signed_pos, signed_pos, compare_gt (by omega)] at ho
    have hm : minF (evenN y) 4746794007244308480 = 4746794007244308480 := by unfold minF; rw [ho]
    exact ⟨hn, by rw [ho]; rfl, by rw [hm]; decide +kernel, by rw [hm]; decide +kernel⟩
  · rw [signed_pos, signed_neg, compare_lt (by omega)] at ho
    have hm : minF (evenN y) 4746794007244308480 = evenN y := by unfold minF; rw [ho]
    have ho2 := ford_at h read_min (p + 21).toNat (by omega)
    have k2 : m * 1 ≤ m * 2 ^ (p + 21).toNat := Nat.mul_le_mul_left _ (Nat.two_pow_pos _)
    have hx : maxF (evenN y) 13970166044103278592 = 13970166044103278592 := by
      unfold maxF
      rw [ho2, signed_neg, signed_neg]
      rcases Nat.lt_or_ge 4503599627370496 (m * 2 ^ (p + 21).toNat) with h3 | h3
      · rw [compare_lt (by omega)]
      · rw [compare_eq (by omega), h]; rfl
    exact ⟨hn, by rw [ho]; rfl, by rw [hm, ho2]; rfl, by rw [hm, hx]; decide +kernel⟩
theorem even_high {y : Nat} {s : Bool} {m : Nat} {i : Int} (h : double.read y = .number s m i) (h1 : 4503599627370496 ≤ m) (h2 : m < 9007199254740992) (hi : 0 ≤ i) (hi2 : i ≤ 971) : double.read (evenN y) = .number s m i := by
  unfold evenN
  rw [h]
  show double.read (double.nearest s (Toward.even.cut s (m <<< i.toNat) (-i).toNat) 0) = _
  have a1 : (-i).toNat = 0 := by omega
  rw [a1, cut_none, nearest_up (q := i) s h1 h2 i.toNat (by omega) (by omega) hi2]
  have e : (i + 1074).toNat * 4503599627370496 + m = (i + 1075).toNat * 4503599627370496 + (m - 4503599627370496) := by
    have : (i + 1075).toNat = (i + 1074).toNat + 1 := by omega
    rw [this]; omega
  rw [e, read_normal s (by omega) (by omega) (by omega), show 4503599627370496 + (m - 4503599627370496) = m from by omega, show (((i + 1075).toNat : Nat) : Int) - 1075 = i from by omega]
theorem even_word {y : Nat} {s : Bool} {m : Nat} {i : Int} (h : double.read y = .number s m i) (h1 : 4503599627370496 ≤ m) (h2 : m < 9007199254740992) (hi : i ≤ 0) (hi2 : -53 ≤ i) : evenN y = double.nearest s (roundN m (-i).toNat) 0 := by
  unfold evenN
  rw [h]
  show double.nearest s (Toward.even.cut s (m <<< i.toNat) (-i).toNat) 0 = _
  have a1 : i.toNat = 0 := by omega
  rw [a1, Nat.shiftLeft_zero, cut_mid s h1 h2 (by omega)]
theorem roundN_range (m d : Nat) : m / 2 ^ d ≤ roundN m d ∧ roundN m d ≤ m / 2 ^ d + 1 := by unfold roundN; split <;> omega
/-- what a number is made, fixed: its mantissa m, its place i -/
def fixW (s : Bool) (m : Nat) (i : Int) : Int :=
  if i ≤ -54 then 0 else if i ≤ -22 then (if s then -((roundN m (-i).toNat : Nat) : Int) else min ((roundN m (-i).toNat : Nat) : Int) 2147483647)
  else if s then -2147483648 else 2147483647
theorem fixOf_mid {y : Nat} {s : Bool} {m : Nat} {i : Int} (h : double.read y = .number s m i) (h1 : 4503599627370496 ≤ m) (h2 : m < 9007199254740992) (hi : i ≤ -22) (hi2 : -53 ≤ i) :
    FixOf y (if s then -((roundN m (-i).toNat : Nat) : Int) else min ((roundN m (-i).toNat : Nat) : Int) 2147483647) := by
  have hn : (double.read y).isNaN = false := by rw [h]; rfl
  have he := even_word h h1 h2 (by omega) hi2
  have hr := roundN_range m (-i).toNat
  have hd : m / 2 ^ (-i).toNat ≤ 2147483647 := by
    have k1 : 2 ^ 22 ≤ 2 ^ (-i).toNat := Nat.pow_le_pow_right (by decide) (by omega)
    have k2 : m / 2 ^ (-i).toNat ≤ m / 2 ^ 22 := Nat.div_le_div_left k1 (by decide)
    omega
  generalize roundN m (-i).toNat = N at *
  have hN : N ≤ 2147483648 := by omega
  clear hr hd
  by_cases n0 : N = 0
  · subst n0
    rw [nearest_zero] at he
    have := fixOf_zero s hn he
    cases s <;> exact this
  by_cases n1 : N = 2147483648
  · subst n1
    cases s <;> exact ⟨hn, by rw [he]; decide +kernel, by rw [he]; decide +kernel, by rw [he]; decide +kernel⟩
  by_cases n2 : N = 2147483647
  · subst n2
    cases s <;> exact ⟨hn, by rw [he]; decide +kernel, by rw [he]; decide +kernel, by rw [he]; decide +kernel⟩
  obtain ⟨a, m', ha, rfl, m1, m2, _, hz⟩ := whole_read s (N := N) (by omega) (by omega)
  rw [← he] at hz
  have ha2 : 22 ≤ a := by
    rcases Nat.lt_or_ge a 22 with h3 | h3
    · have : N * 2 ^ a ≤ N * 2 ^ 21 := Nat.mul_le_mul_left _ (Nat.pow_le_pow_right (by decide) (by omega))
      omega
    · exact h3
  have ho := ford_low hz read_max (a - 22) (by omega)
  have p1 : 9007199250546688 * 2 ^ (a - 22) = 2147483647 * 2 ^ a := by
    have : 2 ^ a = 2 ^ 22 * 2 ^ (a - 22) := by rw [← Nat.pow_add, show 22 + (a - 22) = a from by omega]
    rw [this, ← Nat.mul_assoc]
  have ho2 := ford_low hz read_min (a - 21) (by omega)
  have p2 : 4503599627370496 * 2 ^ (a - 21) = 2147483648 * 2 ^ a := by
    have : 2 ^ a = 2 ^ 21 * 2 ^ (a - 21) := by rw [← Nat.pow_add, show 21 + (a - 21) = a from by omega]
    rw [this, ← Nat.mul_assoc]
  have q1 : N * 2 ^ a < 2147483647 * 2 ^ a := (Nat.mul_lt_mul_right (Nat.two_pow_pos a)).2 (by omega)
  have q2 : N * 2 ^ a < 2147483648 * 2 ^ a := (Nat.mul_lt_mul_right (Nat.two_pow_pos a)).2 (by omega)
  have ht := toInt_whole hz ha m1 m2
  have hlt : double.order (evenN y) 4746794007244308480 = some .lt := by
    rw [ho]
    cases s
    · rw [signed_pos, signed_pos, p1, Nat.pow_zero, Nat.mul_one, compare_lt (by omega)]
    · rw [signed_pos, signed_neg, p1, compare_lt (by omega)]
  have hgt : double.order (evenN y) 13970166044103278592 = some .gt := by
    rw [ho2]
    cases s
    · rw [signed_pos, signed_neg, p2, compare_gt (by omega)]
    · rw [signed_neg, signed_neg, p2, Nat.pow_zero, Nat.mul_one, compare_gt (by omega)]
  have hm : minF (evenN y) 4746794007244308480 = evenN y := by unfold minF; rw [hlt]
  have hx : maxF (evenN y) 13970166044103278592 = evenN y := by unfold maxF; rw [hgt]
  refine ⟨hn, by rw [hlt]; rfl, by rw [hm, hgt]; rfl, ?_⟩
  rw [hm, hx]
  unfold floatToIntVal
  have e1 : FloatKind.f64.decode (evenN y) = double.read (evenN y) := rfl
  rw [e1, ht]
  have e2 : IntKind.i64.min = -9223372036854775808 := by decide
  have e3 : IntKind.i64.max = 9223372036854775807 := by decide
  simp only [e2, e3]
  cases s
  · rw [if_pos (by simp; omega)]
    simp
    omega
  · rw [if_pos (by simp; omega)]
    simp
theorem fixOf_number {y : Nat} {s : Bool} {m : Nat} {i : Int} (h : double.read y = .number s m i) (h1 : 4503599627370496 ≤ m) (h2 : m < 9007199254740992) (hi2 : i ≤ 971) : FixOf y (fixW s m i) := by
  unfold fixW
  by_cases c1 : i ≤ -54
  · rw [if_pos c1]; exact fixOf_small h h2 c1
  rw [if_neg c1]
  by_cases c2 : i ≤ -22
  · rw [if_pos c2]; exact fixOf_mid h h1 h2 c2 (by omega)
  rw [if_neg c2]
  have hn : (double.read y).isNaN = false := by rw [h]; rfl
  by_cases c3 : 0 ≤ i
  · exact fixOf_big hn (even_high h h1 h2 c3 hi2) h1 (by omega)
  have he := even_word h h1 h2 (by omega) (by omega)
  have hr := roundN_range m (-i).toNat
  have hd : 2147483648 ≤ m / 2 ^ (-i).toNat ∧ m / 2 ^ (-i).toNat ≤ 4503599627370496 := by
    have k1 : 2 ^ (-i).toNat ≤ 2 ^ 21 := Nat.pow_le_pow_right (by decide) (by omega)
    have k2 : m / 2 ^ 21 ≤ m / 2 ^ (-i).toNat := Nat.div_le_div_left k1 (Nat.two_pow_pos _)
    have k3 : 2 ^ 1 ≤ 2 ^ (-i).toNat := Nat.pow_le_pow_right (by decide) (by omega)
    have k4 : m / 2 ^ (-i).toNat ≤ m / 2 ^ 1 := Nat.div_le_div_left k3 (by decide)
    omega
  generalize roundN m (-i).toNat = N at *
  obtain ⟨a, m', ha, rfl, m1, m2, _, hz⟩ := whole_read s (N := N) (by omega) (by omega)
  rw [← he] at hz
  have ha2 : a ≤ 21 := by
    rcases Nat.lt_or_ge 21 a with h3 | h3
    · have : N * 2 ^ 22 ≤ N * 2 ^ a := Nat.mul_le_mul_left _ (Nat.pow_le_pow_right (by decide) (by omega))
      omega
    · exact h3
  exact fixOf_big hn hz m1 (by omega)
/-! The parts of a word as the machine's bits tell them. -/
theorem split_and {h f g : Nat} (hf : f < 2 ^ 52) : (2 ^ 52 * h + f) &&& (2 ^ 52 * g + (2 ^ 52 - 1)) = 2 ^ 52 * (h &&& g) + f := by
  refine Nat.eq_of_testBit_eq (fun i => ?_)
  rw [Nat.testBit_and, Nat.testBit_two_pow_mul_add _ hf, Nat.testBit_two_pow_mul_add _ (by decide), Nat.testBit_two_pow_mul_add _ hf]
  by_cases hi : i < 52
  · rw [if_pos hi, if_pos hi, if_pos hi, Nat.testBit_two_pow_sub_one, decide_eq_true hi, Bool.and_true]
  · rw [if_neg hi, if_neg hi, if_neg hi, Nat.testBit_and]
theorem split_or {h f g : Nat} (hf : f < 2 ^ 52) : (2 ^ 52 * h + f) ||| (2 ^ 52 * g + 0) = 2 ^ 52 * (h ||| g) + f := by
  refine Nat.eq_of_testBit_eq (fun i => ?_)
  rw [Nat.testBit_or, Nat.testBit_two_pow_mul_add _ hf, Nat.testBit_two_pow_mul_add _ (by decide), Nat.testBit_two_pow_mul_add _ hf]
  by_cases hi : i < 52
  · rw [if_pos hi, if_pos hi, if_pos hi, Nat.zero_testBit, Bool.or_false]
  · rw [if_neg hi, if_neg hi, if_neg hi, Nat.testBit_or]
/-- the sign, as it stands above the exponent -/
def sgn (s : Bool) : Nat := if s then 2048 else 0
theorem sw_sgn (s : Bool) : sw s = 2 ^ 52 * sgn s := by cases s <;> decide
theorem sgn_and (s : Bool) {E : Nat} (hE : E < 2048) : (sgn s + E) &&& 2048 = sgn s := by
  have key : ∀ a : Nat, (2 ^ 11 * a + E) &&& (2 ^ 11 * 1 + 0) = 2 ^ 11 * (a &&& 1) + 0 := fun a => by
    refine Nat.eq_of_testBit_eq (fun i => ?_)
    rw [Nat.testBit_and, Nat.testBit_two_pow_mul_add _ (show E < 2 ^ 11 from hE), Nat.testBit_two_pow_mul_add _ (by decide), Nat.testBit_two_pow_mul_add _ (by decide)]
    by_cases hi : i < 11
    · rw [if_pos hi, if_pos hi, if_pos hi, Nat.zero_testBit, Bool.and_false]
    · rw [if_neg hi, if_neg hi, if_neg hi, Nat.testBit_and]
  cases s
  · have := key 0
    simpa [sgn] using this
  · exact key 1
theorem sgn_or (s : Bool) {E : Nat} (hE : E < 2048) : sgn s ||| E = sgn s + E := by
  cases s
  · simp [sgn]
  · have := Nat.two_pow_add_eq_or_of_lt (i := 11) hE 1
    exact this.symm
theorem exp_word (s : Bool) {E F f : Nat} (hE : E ≤ 2046) (hF : F ≤ 2046) (hf : f < 4503599627370496) :
    (bits .or .u64 (bits .andNot .u64 ((sw s + (E * 4503599627370496 + f) : Nat) : Int) 9218868437227405312) ((F : Int) * 4503599627370496)).toNat = sw s + (F * 4503599627370496 + f) := by
  have hs : sw s ≤ 9223372036854775808 := by cases s <;> decide
  have h1 := u64_andNot_nat (sw s + (E * 4503599627370496 + f)) 9218868437227405312 (by omega) (by decide)
  have e1 : sw s + (E * 4503599627370496 + f) = 2 ^ 52 * (sgn s + E) + f := by rw [sw_sgn]; omega
  have e2 : 18446744073709551615 - 9218868437227405312 = 2 ^ 52 * 2048 + (2 ^ 52 - 1) := by decide
  rw [e2, e1, split_and (by omega), sgn_and s (by omega)] at h1
  rw [e1]
  have h2 : bits .andNot .u64 ((2 ^ 52 * (sgn s + E) + f : Nat) : Int) 9218868437227405312 = ((2 ^ 52 * sgn s + f : Nat) : Int) := h1
  rw [h2]
  have h3 := u64_or_nat (2 ^ 52 * sgn s + f) (2 ^ 52 * F + 0) (by rw [← sw_sgn]; omega) (by omega)
  rw [split_or (by omega), sgn_or s (by omega)] at h3
  have e3 : (F : Int) * 4503599627370496 = ((2 ^ 52 * F + 0 : Nat) : Int) := by omega
  rw [e3, h3, Int.toNat_natCast]
  rw [sw_sgn]
  omega
theorem i64_and2047 (n : Int) : bits .and .i64 n 2047 = n % 2048 := by
  have h127 : (BitVec.ofInt 64 2047).toNat = 2 ^ 11 - 1 := by decide
  have key : (BitVec.ofInt 64 n &&& BitVec.ofInt 64 2047).toNat = (n % ((2 ^ 64 : Nat) : Int)).toNat % 2 ^ 11 := by
    rw [BitVec.toNat_and, BitVec.toNat_ofInt, h127, Nat.and_two_pow_sub_one_eq_mod]
  show IntKind.i64.wrap ((BitVec.ofInt 64 n &&& BitVec.ofInt 64 2047).toNat : Nat) = n % 2048
  rw [key, IntKind.wrap_i64]
  omega
theorem field_of (s : Bool) {E f : Nat} (hE : E ≤ 2046) (hf : f < 4503599627370496) :
    bits .and .i64 (wrap64 (((sw s + (E * 4503599627370496 + f) : Nat) : Int) / 4503599627370496)) 2047 = (E : Int) := by
  rw [i64_and2047]
  have e1 : (((sw s + (E * 4503599627370496 + f) : Nat) : Int) / 4503599627370496) = ((sgn s + E : Nat) : Int) := by rw [sw_sgn]; omega
  have hs : sgn s ≤ 2048 := by cases s <;> decide
  have h2 : sgn s % 2048 = 0 := by cases s <;> decide
  have e2 : wrap64 ((sgn s + E : Nat) : Int) = ((sgn s + E : Nat) : Int) := by unfold wrap64; omega
  rw [e1, e2]
  omega
def absN (x : Nat) : Nat := (bits .andNot .u64 (x : Int) 9223372036854775808).toNat
theorem absN_of (s : Bool) {r : Nat} (h : r < 9223372036854775808) : absN (sw s + r) = r := by
  have hs : sw s ≤ 9223372036854775808 := by cases s <;> decide
  have h1 := u64_andNot_nat (sw s + r) 9223372036854775808 (by omega) (by decide)
  have e2 : 18446744073709551615 - 9223372036854775808 = 2 ^ 63 - 1 := by decide
  rw [e2, Nat.and_two_pow_sub_one_eq_mod] at h1
  unfold absN
  have h2 : bits .andNot .u64 ((sw s + r : Nat) : Int) 9223372036854775808 = (((sw s + r) % 2 ^ 63 : Nat) : Int) := h1
  rw [h2, Int.toNat_natCast]
  exact sw_mod s h
def isNaNB (x : Nat) : Bool := FloatKind.f64.format.order x x != some .eq
def isInfB (x : Nat) : Bool := FloatKind.f64.format.order (absN x) 9218868437227405311 == some .gt
theorem nan_no {x : Nat} {s : Bool} {m : Nat} {i : Int} (h : double.read x = .number s m i) : isNaNB x = false := by
  have : FloatKind.f64.format.order x x = some .eq := by
    show double.order x x = _
    rw [ford_num h h, compare_eq rfl]
  unfold isNaNB
  rw [this]; rfl
theorem nan_yes {x : Nat} {s : Bool} {t : Nat} (h : double.read x = .nan s t) : isNaNB x = true := by
  have : FloatKind.f64.format.order x x = none := by
    show double.order x x = _
    unfold Format.order
    rw [h]; rfl
  unfold isNaNB
  rw [this]; rfl
theorem zero_no {x : Nat} {s : Bool} {m : Nat} {i : Int} (h : double.read x = .number s m i) (hm : 0 < m) : (FloatKind.f64.format.order x 0 == some .eq) = false := by
  have : FloatKind.f64.format.order x 0 = some (if s then .lt else .gt) := ford_zero h hm
  rw [this]
  cases s <;> rfl
theorem below_zero {x : Nat} {s : Bool} {m : Nat} {i : Int} (h : double.read x = .number s m i) (hm : 0 < m) : (FloatKind.f64.format.order x 0 == some .lt) = s := by
  have : FloatKind.f64.format.order x 0 = some (if s then .lt else .gt) := ford_zero h hm
  rw [this]
  cases s <;> rfl
theorem read_most : double.read 9218868437227405311 = .number false 9007199254740991 971 := by decide +kernel
theorem read_least : double.read 4503599627370496 = .number false 4503599627370496 (-1074) := by decide +kernel
theorem inf_no {x r m : Nat} {i : Int} (ha : absN x = r) (h : double.read r = .number false m i) (hm : m < 9007199254740992) (hi : i ≤ 971) : isInfB x = false := by
  have : FloatKind.f64.format.order r 9218868437227405311 = some (compare (signed false m 0) (signed false 9007199254740991 (971 - i).toNat)) := ford_low h read_most (971 - i).toNat (by omega)
  unfold isInfB
  rw [ha, this, signed_pos, signed_pos]
  have k1 : 9007199254740991 * 1 ≤ 9007199254740991 * 2 ^ (971 - i).toNat := Nat.mul_le_mul_left _ (Nat.two_pow_pos _)
  rcases Nat.lt_or_ge (m * 2 ^ 0) (9007199254740991 * 2 ^ (971 - i).toNat) with h3 | h3
  · rw [compare_lt (by omega)]; rfl
  · rw [compare_eq (by omega)]; rfl
/-- a word of a normal number: its exponent's field -/
structure Normal (x : Nat) (E : Nat) : Prop where
  zero : (FloatKind.f64.format.order x 0 == some .eq) = false
  inf : isInfB x = false
  nan : isNaNB x = false
  small : (FloatKind.f64.format.order (absN x) 4503599627370496 == some .lt) = false
  field : bits .and .i64 (wrap64 ((x : Int) / 4503599627370496)) 2047 = (E : Int)
  lo : 1 ≤ E
  hi : E ≤ 2046
theorem normal_of (s : Bool) {E f : Nat} (h1 : 1 ≤ E) (h2 : E ≤ 2046) (hf : f < 4503599627370496) : Normal (sw s + (E * 4503599627370496 + f)) E := by
  have hr := read_normal s h1 h2 hf
  have ha := absN_of s (r := E * 4503599627370496 + f) (by omega)
  have hra := read_normal false h1 h2 hf
  rw [show sw false + (E * 4503599627370496 + f) = E * 4503599627370496 + f from Nat.zero_add _] at hra
  refine ⟨zero_no hr (by omega), inf_no ha hra (by omega) (by omega), nan_no hr, ?_, field_of s h2 hf, h1, h2⟩
  have : FloatKind.f64.format.order (E * 4503599627370496 + f) 4503599627370496 = some (compare (signed false (4503599627370496 + f) (E - 1)) (signed false 4503599627370496 0)) := ford_at hra read_least (E - 1) (by omega)
  rw [ha, this, signed_pos, signed_pos]
  have k1 : (4503599627370496 + f) * 1 ≤ (4503599627370496 + f) * 2 ^ (E - 1) := Nat.mul_le_mul_left _ (Nat.two_pow_pos _)
  rcases Nat.lt_or_ge (4503599627370496 * 2 ^ 0) ((4503599627370496 + f) * 2 ^ (E - 1)) with h3 | h3
  · rw [compare_gt (by omega)]; rfl
  · rw [compare_eq (by omega)]; rfl
theorem small_of (s : Bool) {f : Nat} (h0 : 0 < f) (hf : f < 4503599627370496) :
    (FloatKind.f64.format.order (sw s + f) 0 == some .eq) = false ∧ isInfB (sw s + f) = false ∧ isNaNB (sw s + f) = false ∧ (FloatKind.f64.format.order (absN (sw s + f)) 4503599627370496 == some .lt) = true := by
  have hr := read_sub s hf
  have ha := absN_of s (r := f) (by omega)
  have hra := read_sub false hf
  rw [show sw false + f = f from Nat.zero_add _] at hra
  refine ⟨zero_no hr h0, inf_no ha hra (by omega) (by omega), nan_no hr, ?_⟩
  have : FloatKind.f64.format.order f 4503599627370496 = some (compare (signed false f 0) (signed false 4503599627370496 0)) := ford_at hra read_least 0 (by omega)
  rw [ha, this, signed_pos, signed_pos, compare_lt (by omega)]; rfl
theorem carry_word (q z : Nat) (hz : 4503599627370496 ≤ z) : q * 4503599627370496 + z = (q + 1) * 4503599627370496 + (z - 4503599627370496) := by omega
/-- a small number times 2^52 -/
theorem small_times (s : Bool) {f : Nat} (h0 : 0 < f) (hf : f < 4503599627370496) :
    ∃ E g : Nat, 1 ≤ E ∧ E ≤ 52 ∧ g < 4503599627370496 ∧ double.mul (sw s + f) 4841369599423283200 = some (sw s + (E * 4503599627370496 + g)) := by
  have hl : f.log2 < 52 := (Nat.log2_lt (by omega)).2 (by omega)
  have e1 : 2 ^ f.log2 ≤ f := Nat.log2_self_le (by omega)
  have e2 : f < 2 ^ (f.log2 + 1) := Nat.lt_log2_self
  obtain ⟨k, hk⟩ : ∃ k, k = 52 - f.log2 := ⟨_, rfl⟩
  have p1 : 2 ^ f.log2 * 2 ^ k = 4503599627370496 := by rw [← Nat.pow_add, show f.log2 + k = 52 from by omega]
  have p2 : 2 ^ (f.log2 + 1) * 2 ^ k = 9007199254740992 := by rw [← Nat.pow_add, show f.log2 + 1 + k = 53 from by omega]
  have m1 : 4503599627370496 ≤ f * 2 ^ k := by rw [← p1]; exact Nat.mul_le_mul_right _ e1
  have m2 : f * 2 ^ k < 9007199254740992 := by rw [← p2]; exact (Nat.mul_lt_mul_right (Nat.two_pow_pos k)).2 e2
  have hc : double.read 4841369599423283200 = .number false 4503599627370496 0 := by decide +kernel
  refine ⟨52 - k + 1, f * 2 ^ k - 4503599627370496, by omega, by omega, by omega, ?_⟩
  unfold Format.mul
  rw [hc, read_sub s hf]
  show some (double.nearest (s ^^ false) (f * 4503599627370496) (-1074 + 0)) = _
  have e : f * 4503599627370496 = (f * 2 ^ k) <<< (52 - k) := by rw [Nat.shiftLeft_eq, Nat.mul_assoc, ← Nat.pow_add, show k + (52 - k) = 52 from by omega]
  rw [e, nearest_up (q := -1074 + ((52 - k : Nat) : Int)) (s ^^ false) m1 m2 (52 - k) (by omega) (by omega) (by omega), Bool.xor_false]
  have e9 : (-1074 + ((52 - k : Nat) : Int) + 1074).toNat = 52 - k := by omega
  rw [e9, carry_word _ _ m1]
/-- a number so small that it is written below all normal ones -/
theorem tiny_read (s : Bool) {m : Nat} (h1 : 4503599627370496 ≤ m) (h2 : m < 9007199254740992) {p : Int} (hp : p ≤ -1075 - 52) (hp2 : -1163 ≤ p) :
    ∃ k, k ≤ 4503599627370496 ∧ double.read (double.nearest s (m <<< 52) p) = .number s k (-1074) := by
  have e1 : double.signWeight = 9223372036854775808 := by decide
  have e2 : double.binade = 4503599627370496 := by decide
  have e3 : double.infRung = 9218868437227405312 := by decide
  have e4 : double.leastPlace = -1074 := by decide
  have e5 : double.fractionBits = 52 := rfl
  have hm : m ≠ 0 := by omega
  have hlog : (m <<< 52).log2 = 104 := by rw [log_shl 52 hm, log_of h1 h2]
  have hl : max (p + ((m <<< 52).log2 : Nat) - (52 : Nat)) (-1074) = -1074 := by rw [hlog]; omega
  have a1 : (p - -1074).toNat = 0 := by omega
  obtain ⟨d, hd⟩ : ∃ d, (-1074 - p).toNat = d := ⟨_, rfl⟩
  have hk : Toward.even.cut s (m <<< 52) d ≤ 4503599627370496 := by
    have hg : 1 <<< min d ((m <<< 52).log2 + 2) = 2 ^ d := by rw [hlog, Nat.min_eq_left (by omega), Nat.shiftLeft_eq, Nat.one_mul]
    have h3 : m <<< 52 / 2 ^ d ≤ m / 2 := by
      have e : 2 ^ d = 2 ^ (d - 53) * 2 * 2 ^ 52 := by rw [← Nat.pow_succ, ← Nat.pow_add, show (d - 53).succ + 52 = d from by omega]
      rw [Nat.shiftLeft_eq, e, Nat.mul_div_mul_right _ _ (Nat.two_pow_pos 52)]
      have k1 : 1 * 2 ≤ 2 ^ (d - 53) * 2 := Nat.mul_le_mul_right _ (Nat.two_pow_pos _)
      exact Nat.div_le_div_left (by omega) (by decide)
    unfold Toward.cut
    simp only [hg]
    generalize (decide (2 ^ d < 2 * (m <<< 52 % 2 ^ d)) || 2 ^ d == 2 * (m <<< 52 % 2 ^ d) && m <<< 52 / 2 ^ d % 2 == 1) = b
    have : b.toNat ≤ 1 := by cases b <;> decide
    omega
  refine ⟨Toward.even.cut s (m <<< 52) d, hk, ?_⟩
  unfold Format.nearest
  rw [if_neg (by rw [Nat.shiftLeft_eq]; exact Nat.mul_ne_zero hm (by decide))]
  simp only [e2, e3, e4, e5, hl]
  rw [a1, hd, Nat.shiftLeft_zero]
  generalize Toward.even.cut s (m <<< 52) d = k at *
  unfold Format.word
  rw [e1, show ((-1074 : Int) - -1074).toNat * 4503599627370496 + k = k from by simp, Nat.min_eq_left (by omega)]
  have e6 : (if s = true then 9223372036854775808 + k else k) = sw s + k := by cases s <;> simp [sw]
  rw [e6]
  by_cases hk2 : k < 4503599627370496
  · exact read_sub s hk2
  · obtain rfl : k = 4503599627370496 := by omega
    have := read_normal s (E := 1) (f := 0) (by omega) (by omega) (by omega)
    exact this
end Go.Proofs.Ytfinbkpmkgpffaa
