/- Words of floating point: the whole part, and what is left over. No program in sight. No condition but what each states. -/
import Derived.Test.YtfinbkpmkgpffaaFloatLaw
namespace Go.Proofs.Ytfinbkpmkgpffaa
open Go.RowKit Ieee

/-! The document's way: a product, its whole part, and what is left over. -/
theorem read_half : double.read 4602678819172646912 = .number false 4503599627370496 (-53) := by decide +kernel
theorem read_nhalf : double.read 13826050856027422720 = .number true 4503599627370496 (-53) := by decide +kernel
theorem read_32768 : double.read 4674736413210574848 = .number false 4503599627370496 (-37) := by decide +kernel
theorem read_n32768 : double.read 13898108450065350656 = .number true 4503599627370496 (-37) := by decide +kernel
theorem read_65536 : double.read 4679240012837945344 = .number false 4503599627370496 (-36) := by decide +kernel
theorem signed_zero (s : Bool) (k : Nat) : signed s 0 k = 0 := by
  cases s
  · rw [signed_pos, Nat.zero_mul]; rfl
  · rw [signed_neg, Nat.zero_mul]; rfl
/-- how a left-over r / 2 ^ d of a sign stands to a half, and to a half below nought -/
def overO (s : Bool) (r d : Nat) : Ordering := if s then .lt else compare ((2 * r : Nat) : Int) ((2 ^ d : Nat) : Int)
def underO (s : Bool) (r d : Nat) : Ordering := if s then compare ((2 ^ d : Nat) : Int) ((2 * r : Nat) : Int) else .gt
theorem compare_mul {a b c : Nat} (hc : 0 < c) : compare ((a * c : Nat) : Int) ((b * c : Nat) : Int) = compare (a : Int) (b : Int) := by
  rcases Nat.lt_trichotomy a b with h | h | h
  · have := (Nat.mul_lt_mul_right hc).2 h
    rw [compare_lt (by omega), compare_lt (by omega)]
  · subst h
    rw [compare_eq rfl, compare_eq rfl]
  · have := (Nat.mul_lt_mul_right hc).2 h
    rw [compare_gt (by omega), compare_gt (by omega)]
theorem over_of {x : Nat} {s : Bool} {r t d : Nat} (h : double.read x = .number s (r * 2 ^ t) (-((d + t : Nat) : Int))) (hr : 0 < r) (hd : 53 ≤ d + t) : double.order x 4602678819172646912 = some (overO s r d) := by
  rw [ford_low h read_half (d + t - 53) (by omega)]
  have e1 : 4503599627370496 * 2 ^ (d + t - 53) * 2 = 2 ^ d * 2 ^ t := by
    rw [show (4503599627370496 : Nat) = 2 ^ 52 from rfl, ← Nat.pow_add, ← Nat.pow_succ, ← Nat.pow_add]
    congr 1
    omega
  have p := Nat.two_pow_pos t
  cases s
  · rw [signed_pos, signed_pos, Nat.pow_zero, Nat.mul_one]
    have c1 := compare_mul (a := r * 2 ^ t) (b := 4503599627370496 * 2 ^ (d + t - 53)) (c := 2) (by decide)
    rw [← c1, e1, Nat.mul_assoc, Nat.mul_comm (2 ^ t) 2, ← Nat.mul_assoc, Nat.mul_comm r 2, compare_mul p]
    rfl
  · rw [signed_neg, signed_pos, compare_lt (by have := pos_shift hr t; have := Nat.two_pow_pos (d + t - 53); omega)]
    rfl
theorem under_of {x : Nat} {s : Bool} {r t d : Nat} (h : double.read x = .number s (r * 2 ^ t) (-((d + t : Nat) : Int))) (hr : 0 < r) (hd : 53 ≤ d + t) : double.order x 13826050856027422720 = some (underO s r d) := by
  rw [ford_low h read_nhalf (d + t - 53) (by omega)]
  have e1 : 4503599627370496 * 2 ^ (d + t - 53) * 2 = 2 ^ d * 2 ^ t := by
    rw [show (4503599627370496 : Nat) = 2 ^ 52 from rfl, ← Nat.pow_add, ← Nat.pow_succ, ← Nat.pow_add]
    congr 1
    omega
  have p := Nat.two_pow_pos t
  cases s
  · rw [signed_pos, signed_neg, compare_gt (by have := pos_shift hr t; have := Nat.two_pow_pos (d + t - 53); omega)]
    rfl
  · rw [signed_neg, signed_neg, Nat.pow_zero, Nat.mul_one]
    have c1 := compare_mul (a := 4503599627370496 * 2 ^ (d + t - 53)) (b := r * 2 ^ t) (c := 2) (by decide)
    have c2 : ∀ a b : Nat, compare (-(a : Int)) (-(b : Int)) = compare (b : Int) (a : Int) := fun a b => by
      rcases Nat.lt_trichotomy a b with h | h | h
      · rw [compare_gt (by omega), compare_gt (by omega)]
      · subst h; rw [compare_eq rfl, compare_eq rfl]
      · rw [compare_lt (by omega), compare_lt (by omega)]
    rw [c2, ← c1, e1, Nat.mul_assoc, Nat.mul_comm (2 ^ t) 2, ← Nat.mul_assoc, Nat.mul_comm r 2, compare_mul p]
    rfl
/-- what is cut towards nought -/
theorem toInt_cut {y : Nat} {s : Bool} {m d : Nat} (h : double.read y = .number s m (-(d : Int))) (h1 : 4503599627370496 ≤ m) (h2 : m < 9007199254740992) (hd : d ≤ 1074) : (double.read y).toInt .zero = some (if s then -((m / 2 ^ d : Nat) : Int) else ((m / 2 ^ d : Nat) : Int)) := by
  have a1 : (-(d : Int)).toNat = 0 := by omega
  have a2 : (-(-(d : Int))).toNat = d := by omega
  have hc : Toward.zero.cut s m d = m / 2 ^ d := by
    unfold Toward.cut
    rcases Nat.lt_or_ge 54 d with h3 | h3
    · have hg : 1 <<< min d (m.log2 + 2) = 2 ^ 54 := by rw [log_of h1 h2, Nat.min_eq_right (by omega), Nat.shiftLeft_eq, Nat.one_mul]
      have k1 : 2 ^ 54 ≤ 2 ^ d := Nat.pow_le_pow_right (by decide) (by omega)
      simp only [hg]
      rw [Nat.div_eq_of_lt (by omega), Nat.div_eq_of_lt (by omega)]
      rfl
    · have hg : 1 <<< min d (m.log2 + 2) = 2 ^ d := by rw [log_of h1 h2, Nat.min_eq_left (by omega), Nat.shiftLeft_eq, Nat.one_mul]
      simp only [hg]
      rfl
  rw [h]
  unfold Datum.toInt
  show some (signed s (Toward.zero.cut s (m <<< (-(d : Int)).toNat) (-(-(d : Int))).toNat) 0) = _
  rw [a1, a2, Nat.shiftLeft_zero, hc]
  cases s
  · rw [signed_pos, Nat.pow_zero, Nat.mul_one]; rfl
  · rw [signed_neg, Nat.pow_zero, Nat.mul_one]; rfl
theorem toIntVal_cut {y : Nat} {n : Int} (h : (double.read y).toInt .zero = some n) (h1 : -9223372036854775808 ≤ n) (h2 : n ≤ 9223372036854775807) : floatToIntVal .f64 y .i64 = some n := by
  unfold floatToIntVal
  have e1 : FloatKind.f64.decode y = double.read y := rfl
  rw [e1, h]
  have e2 : IntKind.i64.min = -9223372036854775808 := by decide
  have e3 : IntKind.i64.max = 9223372036854775807 := by decide
  simp only [e2, e3]
  rw [if_pos ⟨h1, h2⟩]
/-- what is left over, as a word: it stands to the halves as it should -/
theorem left_over {y : Nat} {s : Bool} {m d : Nat} (h : double.read y = .number s m (-(d : Int))) (h1 : 4503599627370496 ≤ m) (h2 : m < 9007199254740992) (hd : d ≤ 1074) :
    ∃ dd, double.sub y (floatOfInt .f64 (if s then -((m / 2 ^ d : Nat) : Int) else ((m / 2 ^ d : Nat) : Int))) = some dd ∧
      double.order dd 4602678819172646912 = some (if m % 2 ^ d = 0 then .lt else overO s (m % 2 ^ d) d) ∧ double.order dd 13826050856027422720 = some (if m % 2 ^ d = 0 then .gt else underO s (m % 2 ^ d) d) := by
  have hp := Nat.two_pow_pos d
  have hdm : 2 ^ d * (m / 2 ^ d) + m % 2 ^ d = m := Nat.div_add_mod m (2 ^ d)
  have hrl : m % 2 ^ d < 2 ^ d := Nat.mod_lt _ hp
  generalize hq : m / 2 ^ d = q at *
  generalize hr : m % 2 ^ d = r at *
  by_cases q0 : q = 0
  · subst q0
    have hrm : r = m := by omega
    subst hrm
    have e0 : floatOfInt .f64 (if s then -((0 : Nat) : Int) else ((0 : Nat) : Int)) = 0 := by cases s <;> decide +kernel
    rw [e0]
    have hz : double.read 0 = .number false 0 (-1074) := by decide +kernel
    have hy : double.sub y 0 = some (double.nearest s (r <<< (1074 - d)) (-1074)) := by
      unfold Format.sub
      rw [h, hz]
      show (some (Datum.number _ _ _)).map double.write = _
      have m1 : min (-(d : Int)) (-1074) = -1074 := by omega
      have m2 : (-(d : Int) - -1074).toNat = 1074 - d := by omega
      have hpos := pos_shift (m := r) (by omega) (1074 - d)
      simp only [m1, m2, signed_zero, Int.add_zero]
      cases s
      · rw [signed_pos, if_neg (by omega)]
        have e : decide (((r * 2 ^ (1074 - d) : Nat) : Int) < 0) = false := decide_eq_false (by omega)
        rw [e, Int.natAbs_natCast, ← Nat.shiftLeft_eq]; rfl
      · rw [signed_neg, if_neg (by omega)]
        have e : decide (-((r * 2 ^ (1074 - d) : Nat) : Int) < 0) = true := decide_eq_true (by omega)
        rw [e, Int.natAbs_neg, Int.natAbs_natCast, ← Nat.shiftLeft_eq]; rfl
    refine ⟨_, hy, ?_⟩
    have hw := nearest_up (q := -(d : Int)) (p := -1074) s h1 h2 (1074 - d) (by omega) (by omega) (by omega)
    have hd53 : 53 ≤ d := by
      rcases Nat.lt_or_ge d 53 with h3 | h3
      · have : 2 ^ d ≤ 2 ^ 52 := Nat.pow_le_pow_right (by decide) (by omega)
        omega
      · exact h3
    have hrd : double.read (double.nearest s (r <<< (1074 - d)) (-1074)) = .number s (r * 2 ^ 0) (-((d + 0 : Nat) : Int)) := by
      rw [hw]
      have e9 : (-(d : Int) + 1074).toNat = 1074 - d := by omega
      rw [e9, carry_word _ _ h1, read_normal s (by omega) (by omega) (by omega), Nat.pow_zero, Nat.mul_one, show 4503599627370496 + (r - 4503599627370496) = r from by omega, show ((1074 - d + 1 : Nat) : Int) - 1075 = -((d + 0 : Nat) : Int) from by omega]
    rw [if_neg (by omega), if_neg (by omega)]
    exact ⟨over_of hrd (by omega) (by omega), under_of hrd (by omega) (by omega)⟩
  · have hd52 : d ≤ 52 := by
      rcases Nat.lt_or_ge 52 d with h3 | h3
      · have : 2 ^ 53 ≤ 2 ^ d := Nat.pow_le_pow_right (by decide) h3
        have : 2 ^ d * 1 ≤ 2 ^ d * q := Nat.mul_le_mul_left _ (by omega)
        omega
      · exact h3
    have hql : 4503599627370496 ≤ q * 2 ^ d ∧ q * 2 ^ d ≤ m := by
      have hc := Nat.mul_comm q (2 ^ d)
      refine ⟨?_, by omega⟩
      obtain ⟨u, hu⟩ : ∃ u, 52 - d = u := ⟨_, rfl⟩
      have e : (4503599627370496 : Nat) = 2 ^ u * 2 ^ d := by rw [← Nat.pow_add, show u + d = 52 from by omega]
      rw [e]
      refine Nat.mul_le_mul_right _ ?_
      have : 2 ^ u * 2 ^ d < (q + 1) * 2 ^ d := by
        rw [← e, Nat.add_mul, Nat.one_mul]
        omega
      have := Nat.lt_of_mul_lt_mul_right this
      omega
    have hq22 : q < 9007199254740992 := by
      have : q * 1 ≤ q * 2 ^ d := Nat.mul_le_mul_left _ hp
      omega
    have hnf : double.read (floatOfInt .f64 (if s then -(q : Int) else (q : Int))) = .number s (q * 2 ^ d) (-(d : Int)) := by
      have e0 : floatOfInt .f64 (if s then -(q : Int) else (q : Int)) = double.nearest s q 0 := by
        cases s
        · show double.nearest (decide ((q : Int) < 0)) (q : Int).natAbs 0 = _
          rw [decide_eq_false (by omega), Int.natAbs_natCast]
        · show double.nearest (decide (-(q : Int) < 0)) (-(q : Int)).natAbs 0 = _
          rw [decide_eq_true (by omega), Int.natAbs_neg, Int.natAbs_natCast]
      have hw := nearest_down (q := -(d : Int)) (p := 0) (n := q) s hql.1 (by omega) d (by rw [Nat.shiftLeft_eq]) (by omega) (by omega) (by omega)
      have e9 : (-(d : Int) + 1074).toNat = 1074 - d := by omega
      rw [e0, hw, e9, carry_word _ _ hql.1, read_normal s (by omega) (by omega) (by omega), show 4503599627370496 + (q * 2 ^ d - 4503599627370496) = q * 2 ^ d from by omega, show ((1074 - d + 1 : Nat) : Int) - 1075 = -(d : Int) from by omega]
    have hmr : m = q * 2 ^ d + r := by have := Nat.mul_comm q (2 ^ d); omega
    have hsub : double.sub y (floatOfInt .f64 (if s then -(q : Int) else (q : Int))) = some (double.nearest (if r = 0 then false else s) r (-(d : Int))) := by
      unfold Format.sub
      rw [h, hnf]
      show (some (Datum.number _ _ _)).map double.write = _
      have m1 : min (-(d : Int)) (-(d : Int)) = -(d : Int) := by omega
      have m2 : (-(d : Int) - -(d : Int)).toNat = 0 := by omega
      simp only [m1, m2]
      cases s
      · have e : signed false m 0 + signed (!false) (q * 2 ^ d) 0 = (r : Int) := by
          show signed false m 0 + signed true (q * 2 ^ d) 0 = _
          rw [signed_pos, signed_neg, Nat.pow_zero, Nat.mul_one, Nat.mul_one]
          omega
        rw [e]
        by_cases r0 : r = 0
        · subst r0; rfl
        · rw [if_neg (by omega), if_neg r0, decide_eq_false (by omega), Int.natAbs_natCast]; rfl
      · have e : signed true m 0 + signed (!true) (q * 2 ^ d) 0 = -(r : Int) := by
          show signed true m 0 + signed false (q * 2 ^ d) 0 = _
          rw [signed_pos, signed_neg, Nat.pow_zero, Nat.mul_one, Nat.mul_one]
          omega
        rw [e]
        by_cases r0 : r = 0
        · subst r0; rfl
        · rw [if_neg (by omega), if_neg r0, decide_eq_true (by omega), Int.natAbs_neg, Int.natAbs_natCast]; rfl
    refine ⟨_, hsub, ?_⟩
    by_cases r0 : r = 0
    · subst r0
      rw [if_pos rfl, if_pos rfl, if_pos rfl, nearest_zero]
      exact ⟨by decide +kernel, by decide +kernel⟩
    · rw [if_neg r0, if_neg r0, if_neg r0]
      have hl : r.log2 < d := (Nat.log2_lt (by omega)).2 hrl
      have g1 : 2 ^ r.log2 ≤ r := Nat.log2_self_le (by omega)
      have g2 : r < 2 ^ (r.log2 + 1) := Nat.lt_log2_self
      obtain ⟨t, ht⟩ : ∃ t, t = 52 - r.log2 := ⟨_, rfl⟩
      have p1 : 2 ^ r.log2 * 2 ^ t = 4503599627370496 := by rw [← Nat.pow_add, show r.log2 + t = 52 from by omega]
      have p2 : 2 ^ (r.log2 + 1) * 2 ^ t = 9007199254740992 := by rw [← Nat.pow_add, show r.log2 + 1 + t = 53 from by omega]
      have m1 : 4503599627370496 ≤ r * 2 ^ t := by rw [← p1]; exact Nat.mul_le_mul_right _ g1
      have m2 : r * 2 ^ t < 9007199254740992 := by rw [← p2]; exact (Nat.mul_lt_mul_right (Nat.two_pow_pos t)).2 g2
      have hw := nearest_down (q := -((d + t : Nat) : Int)) (p := -(d : Int)) (n := r) s m1 m2 t (by rw [Nat.shiftLeft_eq]) (by omega) (by omega) (by omega)
      have e9 : (-((d + t : Nat) : Int) + 1074).toNat = 1074 - (d + t) := by omega
      have hrd : double.read (double.nearest s r (-(d : Int))) = .number s (r * 2 ^ t) (-((d + t : Nat) : Int)) := by
        rw [hw, e9, carry_word _ _ m1, read_normal s (by omega) (by omega) (by omega), show 4503599627370496 + (r * 2 ^ t - 4503599627370496) = r * 2 ^ t from by omega, show ((1074 - (d + t) + 1 : Nat) : Int) - 1075 = -((d + t : Nat) : Int) from by omega]
      exact ⟨over_of hrd (by omega) (by omega), under_of hrd (by omega) (by omega)⟩
theorem nearest_sub (s : Bool) {g : Nat} (h0 : 0 < g) (hg : g < 4503599627370496) (a : Nat) {p : Int} (hp : p = -1074 - a) : double.nearest s (g <<< a) p = sw s + g := by
  have e1 : double.signWeight = 9223372036854775808 := by decide
  have e2 : double.binade = 4503599627370496 := by decide
  have e3 : double.infRung = 9218868437227405312 := by decide
  have e4 : double.leastPlace = -1074 := by decide
  have e5 : double.fractionBits = 52 := rfl
  have hl : g.log2 < 52 := (Nat.log2_lt (by omega)).2 (by omega)
  have hm : max (p + ((g <<< a).log2 : Nat) - (52 : Nat)) (-1074) = -1074 := by rw [log_shl a (by omega)]; omega
  unfold Format.nearest
  rw [if_neg (by rw [Nat.shiftLeft_eq]; have := pos_shift h0 a; omega)]
  simp only [e2, e3, e4, e5, hm]
  have a1 : (p - -1074).toNat = 0 := by omega
  have a2 : (-1074 - p).toNat = a := by omega
  rw [a1, a2, Nat.shiftLeft_zero, cut_all s g a (by omega)]
  unfold Format.word
  rw [e1, show ((-1074 : Int) - -1074).toNat * 4503599627370496 + g = g from by simp, Nat.min_eq_left (by omega)]
  cases s <;> simp [sw]
/-- a small number times 65536 -/
theorem small_product (s : Bool) {f : Nat} (h0 : 0 < f) (hf : f < 4503599627370496) :
    (∃ m d : Nat, double.mul (sw s + f) 4679240012837945344 = some (double.nearest s (f <<< 52) (-1110)) ∧ double.read (double.nearest s (f <<< 52) (-1110)) = .number s m (-(d : Int)) ∧ 4503599627370496 ≤ m ∧ m < 9007199254740992 ∧ 54 ≤ d ∧ d ≤ 1074) ∨
    (∃ g, double.mul (sw s + f) 4679240012837945344 = some (sw s + g) ∧ 0 < g ∧ g < 4503599627370496) := by
  have hmul : double.mul (sw s + f) 4679240012837945344 = some (double.nearest s (f <<< 52) (-1110)) := by
    unfold Format.mul
    rw [read_65536, read_sub s hf]
    show some (double.nearest (s ^^ false) (f * 4503599627370496) (-1074 + -36)) = _
    rw [Bool.xor_false, Nat.shiftLeft_eq]
    rfl
  have hl : f.log2 < 52 := (Nat.log2_lt (by omega)).2 (by omega)
  have e1 : 2 ^ f.log2 ≤ f := Nat.log2_self_le (by omega)
  have e2 : f < 2 ^ (f.log2 + 1) := Nat.lt_log2_self
  obtain ⟨k, hk⟩ : ∃ k, k = 52 - f.log2 := ⟨_, rfl⟩
  rcases Nat.lt_or_ge 16 k with h16 | h16
  · right
    have hs : f * 2 ^ 16 < 4503599627370496 := by
      have : 2 ^ (f.log2 + 1) ≤ 2 ^ 36 := Nat.pow_le_pow_right (by decide) (by omega)
      omega
    refine ⟨f * 2 ^ 16, ?_, by omega, hs⟩
    have e : f <<< 52 = (f * 2 ^ 16) <<< 36 := by rw [Nat.shiftLeft_eq, Nat.shiftLeft_eq, Nat.mul_assoc]
    rw [hmul, e, nearest_sub s (by omega) hs 36 (by omega)]
  · left
    have p1 : 2 ^ f.log2 * 2 ^ k = 4503599627370496 := by rw [← Nat.pow_add, show f.log2 + k = 52 from by omega]
    have p2 : 2 ^ (f.log2 + 1) * 2 ^ k = 9007199254740992 := by rw [← Nat.pow_add, show f.log2 + 1 + k = 53 from by omega]
    have m1 : 4503599627370496 ≤ f * 2 ^ k := by rw [← p1]; exact Nat.mul_le_mul_right _ e1
    have m2 : f * 2 ^ k < 9007199254740992 := by rw [← p2]; exact (Nat.mul_lt_mul_right (Nat.two_pow_pos k)).2 e2
    have e : f <<< 52 = (f * 2 ^ k) <<< (52 - k) := by rw [Nat.shiftLeft_eq, Nat.shiftLeft_eq, Nat.mul_assoc, ← Nat.pow_add, show k + (52 - k) = 52 from by omega]
    have hw := nearest_up (q := -((1058 + k : Nat) : Int)) (p := -1110) s m1 m2 (52 - k) (by omega) (by omega) (by omega)
    refine ⟨f * 2 ^ k, 1058 + k, hmul, ?_, m1, m2, by omega, by omega⟩
    have e9 : (-((1058 + k : Nat) : Int) + 1074).toNat = 16 - k := by omega
    rw [e, hw, e9, carry_word _ _ m1, read_normal s (by omega) (by omega) (by omega), show 4503599627370496 + (f * 2 ^ k - 4503599627370496) = f * 2 ^ k from by omega, show ((16 - k + 1 : Nat) : Int) - 1075 = -((1058 + k : Nat) : Int) from by omega]
/-- a number below all normal ones less nought is itself; it stands between the halves -/
theorem small_left (s : Bool) {g : Nat} (h0 : 0 < g) (hg : g < 4503599627370496) :
    (double.read (sw s + g)).toInt .zero = some 0 ∧ double.sub (sw s + g) 0 = some (sw s + g) ∧ double.order (sw s + g) 4602678819172646912 = some .lt ∧ double.order (sw s + g) 13826050856027422720 = some .gt := by
  have hr := read_sub s hg
  refine ⟨?_, ?_, ?_, ?_⟩
  · rw [hr]
    unfold Datum.toInt
    show some (signed s (Toward.zero.cut s (g <<< (-1074 : Int).toNat) (-(-1074 : Int)).toNat) 0) = _
    have hc : Toward.zero.cut s (g <<< (-1074 : Int).toNat) (-(-1074 : Int)).toNat = 0 := by
      show Toward.zero.cut s g 1074 = 0
      have hl : g.log2 < 52 := (Nat.log2_lt (by omega)).2 (by omega)
      have hgp : 1 <<< min 1074 (g.log2 + 2) = 2 ^ (g.log2 + 2) := by rw [Nat.min_eq_right (by omega), Nat.shiftLeft_eq, Nat.one_mul]
      have h1 : g < 2 ^ (g.log2 + 1) := Nat.lt_log2_self
      have h2 : 2 ^ (g.log2 + 2) = 2 ^ (g.log2 + 1) * 2 := Nat.pow_succ ..
      unfold Toward.cut
      simp only [hgp]
      rw [Nat.div_eq_of_lt (by omega)]
      rfl
    rw [hc, signed_zero]
  · have hz : double.read 0 = .number false 0 (-1074) := by decide +kernel
    unfold Format.sub
    rw [hr, hz]
    show (some (Datum.number _ _ _)).map double.write = _
    have m1 : min (-1074 : Int) (-1074) = -1074 := by omega
    have m2 : ((-1074 : Int) - -1074).toNat = 0 := by omega
    have hn := nearest_sub s h0 hg 0 (p := -1074) (by omega)
    rw [Nat.shiftLeft_zero] at hn
    simp only [m1, m2, signed_zero, Int.add_zero]
    cases s
    · rw [signed_pos, Nat.pow_zero, Nat.mul_one, if_neg (by omega), decide_eq_false (by omega), Int.natAbs_natCast]
      exact congrArg some hn
    · rw [signed_neg, Nat.pow_zero, Nat.mul_one, if_neg (by omega), decide_eq_true (by omega), Int.natAbs_neg, Int.natAbs_natCast]
      exact congrArg some hn
  · obtain ⟨K, hK⟩ : ∃ K : Nat, K = 1021 := ⟨_, rfl⟩
    rw [ford_low hr read_half K (by omega)]
    have k1 : 4503599627370496 * 1 ≤ 4503599627370496 * 2 ^ K := Nat.mul_le_mul_left _ (Nat.two_pow_pos _)
    cases s
    · rw [signed_pos, signed_pos, Nat.pow_zero, Nat.mul_one]
      generalize 4503599627370496 * 2 ^ K = X at *
      rw [compare_lt (by omega)]
    · rw [signed_neg, signed_pos, Nat.pow_zero, Nat.mul_one]
      generalize 4503599627370496 * 2 ^ K = X at *
      rw [compare_lt (by omega)]
  · obtain ⟨K, hK⟩ : ∃ K : Nat, K = 1021 := ⟨_, rfl⟩
    rw [ford_low hr read_nhalf K (by omega)]
    have k1 : 4503599627370496 * 1 ≤ 4503599627370496 * 2 ^ K := Nat.mul_le_mul_left _ (Nat.two_pow_pos _)
    cases s
    · rw [signed_pos, signed_neg, Nat.pow_zero, Nat.mul_one]
      generalize 4503599627370496 * 2 ^ K = X at *
      rw [compare_gt (by omega)]
    · rw [signed_neg, signed_neg, Nat.pow_zero, Nat.mul_one]
      generalize 4503599627370496 * 2 ^ K = X at *
      rw [compare_gt (by omega)]
/-- both ways come to the same -/
theorem odd_of (s : Bool) (q : Nat) : (((if s then -(q : Int) else (q : Int))).tmod 2 != 0) = (q % 2 == 1) := by
  have h : ∀ z : Int, z = (q : Int) ∨ z = -(q : Int) → (z.tmod 2 != 0) = (q % 2 == 1) := by
    intro z hz
    have e : z.tmod 2 = if z = (q : Int) then ((q % 2 : Nat) : Int) else -((q % 2 : Nat) : Int) := by
      rcases hz with rfl | rfl
      · rw [if_pos rfl]; rfl
      · by_cases h0 : -(q : Int) = (q : Int)
        · rw [if_pos h0]
          have : q = 0 := by omega
          subst this; rfl
        · rw [if_neg h0, Int.neg_tmod]; rfl
    rcases Nat.mod_two_eq_zero_or_one q with h1 | h1
    · rw [e, h1]
      split <;> rfl
    · rw [e, h1]
      split <;> rfl
  cases s
  · exact h _ (.inl rfl)
  · exact h _ (.inr rfl)
def moveN (n : Int) (a b : Ordering) (od : Bool) : Int :=
  if a = .gt ∨ (a = .eq ∧ od = true) then n + 1 else if b = .lt ∨ (b = .eq ∧ od = true) then n - 1 else n
theorem join_move (s : Bool) {m d : Nat} (h2 : m < 9007199254740992) (hd : 22 ≤ d) :
    min 2147483647 (moveN (if s then -((m / 2 ^ d : Nat) : Int) else ((m / 2 ^ d : Nat) : Int)) (if m % 2 ^ d = 0 then .lt else overO s (m % 2 ^ d) d) (if m % 2 ^ d = 0 then .gt else underO s (m % 2 ^ d) d) (m / 2 ^ d % 2 == 1)) = fixW s m (-(d : Int)) := by
  have hp := Nat.two_pow_pos d
  have hR : (54 ≤ d → roundN m d = 0) ∧ roundN m d ≤ 2147483648 := by
    refine ⟨fun h3 => ?_, ?_⟩
    · have : 2 ^ 54 ≤ 2 ^ d := Nat.pow_le_pow_right (by decide) h3
      unfold roundN
      rw [Nat.div_eq_of_lt (by omega), Nat.mod_eq_of_lt (by omega), if_neg (by omega)]
    · have hr := roundN_range m d
      have k1 : 2 ^ 22 ≤ 2 ^ d := Nat.pow_le_pow_right (by decide) hd
      have k2 : m / 2 ^ d ≤ m / 2 ^ 22 := Nat.div_le_div_left k1 (by decide)
      omega
  have hF : fixW s m (-(d : Int)) = if s then -((roundN m d : Nat) : Int) else min ((roundN m d : Nat) : Int) 2147483647 := by
    unfold fixW
    have e : (-(-(d : Int))).toNat = d := by omega
    rw [e]
    by_cases h3 : 54 ≤ d
    · rw [if_pos (by omega), hR.1 h3]
      cases s <;> rfl
    · rw [if_neg (by omega), if_pos (by omega)]
  rw [hF]
  have hR2 := hR.2
  clear hF hR
  have hm : moveN (if s then -((m / 2 ^ d : Nat) : Int) else ((m / 2 ^ d : Nat) : Int)) (if m % 2 ^ d = 0 then .lt else overO s (m % 2 ^ d) d) (if m % 2 ^ d = 0 then .gt else underO s (m % 2 ^ d) d) (m / 2 ^ d % 2 == 1) = if s then -((roundN m d : Nat) : Int) else ((roundN m d : Nat) : Int) := by
    unfold roundN overO underO
    generalize m / 2 ^ d = q
    generalize m % 2 ^ d = r
    generalize 2 ^ d = g at hp ⊢
    by_cases r0 : r = 0
    · subst r0
      rw [if_pos rfl, if_pos rfl, if_neg (show ¬ (g < 2 * 0 ∨ (g = 2 * 0 ∧ q % 2 = 1)) by omega)]
      cases s <;> simp [moveN]
    · rw [if_neg r0, if_neg r0]
      rcases Nat.lt_trichotomy (2 * r) g with h | h | h
      · rw [if_neg (show ¬ (g < 2 * r ∨ (g = 2 * r ∧ q % 2 = 1)) by omega), compare_lt (show ((2 * r : Nat) : Int) < (g : Int) by omega), compare_gt (show ((2 * r : Nat) : Int) < (g : Int) by omega)]
        cases s <;> simp [moveN]
      · rw [compare_eq (show ((2 * r : Nat) : Int) = (g : Int) by omega), compare_eq (show (g : Int) = ((2 * r : Nat) : Int) by omega)]
        by_cases h1 : q % 2 = 1
        · rw [if_pos (show g < 2 * r ∨ (g = 2 * r ∧ q % 2 = 1) from .inr ⟨h.symm, h1⟩), h1]
          cases s <;> simp [moveN] <;> omega
        · rw [if_neg (show ¬ (g < 2 * r ∨ (g = 2 * r ∧ q % 2 = 1)) by omega), beq_eq_false_iff_ne.2 h1]
          cases s <;> simp [moveN]
      · rw [if_pos (show g < 2 * r ∨ (g = 2 * r ∧ q % 2 = 1) from .inl h), compare_gt (show (g : Int) < ((2 * r : Nat) : Int) by omega), compare_lt (show (g : Int) < ((2 * r : Nat) : Int) by omega)]
        cases s <;> simp [moveN] <;> omega
  rw [hm]
  cases s
  · rw [if_neg (by decide), if_neg (by decide)]; omega
  · rw [if_pos rfl, if_pos rfl]; omega
end Go.Proofs.Ytfinbkpmkgpffaa
