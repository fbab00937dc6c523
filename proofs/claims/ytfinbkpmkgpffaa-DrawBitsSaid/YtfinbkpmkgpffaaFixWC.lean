/- Any number made fixed, by the program: what it is. Condition: the word has 64 bits. -/
import Derived.Test.YtfinbkpmkgpffaaFixWB
namespace Go.Proofs.Ytfinbkpmkgpffaa
open Go.RowKit Ieee

/-- a number in fixed point; what goes beyond is clamped -/
def fixN (x : Nat) : Int := match double.read x with
  | .nan _ _ => 0
  | .infinity s => if s then -2147483648 else 2147483647
  | .number s m i => fixW s m (i + 16)
def fixE (x : Nat) : Int := if isNaNB x then 28 else 0
theorem mul_one_word (s : Bool) {F g : Nat} (h1 : 1 ≤ F) (h2 : F ≤ 2046) (hg : g < 4503599627370496) : double.mul 4607182418800017408 (sw s + (F * 4503599627370496 + g)) = some (sw s + (F * 4503599627370496 + g)) := by
  have hc : double.read 4607182418800017408 = .number false 4503599627370496 (-52) := by decide +kernel
  rw [mul_words hc (read_normal s h1 h2 hg) (by omega) (by omega) (by omega) (by omega)]
  have e : ((F : Int) - 1075 + -52 + 52 + 1074).toNat = F - 1 := by omega
  rw [e]
  have e2 : ∀ q : Nat, 1 ≤ q → (q - 1) * 4503599627370496 + (4503599627370496 + g) = q * 4503599627370496 + g := fun q hq => by omega
  rw [e2 F h1]
theorem expW_of (s : Bool) {E F f : Nat} {t : Int} (ht : t = (F : Int)) (hE : E ≤ 2046) (hF : F ≤ 2046) (hf : f < 4503599627370496) : expW (sw s + (E * 4503599627370496 + f)) t = sw s + (F * 4503599627370496 + f) := by
  subst ht
  exact exp_word s hE hF hf
theorem fix_any {x : Nat} (hx : x < 18446744073709551616) (w : World) : Calls Try.prog 43 #[.float .f64 x] w fun e w' => e = .returned (.tuple #[.int .i64 (fixN x), .int .i64 (fixE x)]) ∧ w = w' := by
  have hnum : ∀ {s : Bool} {m : Nat} {i : Int}, double.read x = .number s m i → fixN x = fixW s m (i + 16) ∧ fixE x = 0 ∧ isNaNB x = false := by
    intro s m i h
    have hn := nan_no h
    exact ⟨by unfold fixN; rw [h], by unfold fixE; rw [hn]; rfl, hn⟩
  cases word_is hx with
  | zero s h =>
    have hr : double.read x = .number s 0 (-1074) := by rw [h]; exact read_sub s (f := 0) (by decide)
    obtain ⟨e1, e2, hn⟩ := hnum hr
    rw [e1, e2]
    refine fix_run hn (ldexp_zero ?_) (fixOf_small hr (by decide) (by decide)) w
    rw [h]
    cases s <;> decide +kernel
  | inf s h =>
    have hr : double.read x = .infinity s := by rw [h]; exact read_inf s
    have hn : isNaNB x = false := by rw [h]; cases s <;> decide +kernel
    have e1 : fixN x = if s then -2147483648 else 2147483647 := by unfold fixN; rw [hr]
    have e2 : fixE x = 0 := by unfold fixE; rw [hn]; rfl
    rw [e1, e2]
    refine fix_run hn (ldexp_inf ?_ ?_) (h ▸ fixOf_inf s) w
    · rw [h]; cases s <;> decide +kernel
    · rw [h]; cases s <;> decide +kernel
  | nan s t h =>
    have hn := nan_yes h
    have e1 : fixN x = 0 := by unfold fixN; rw [h]
    have e2 : fixE x = 28 := by unfold fixE; rw [hn]; rfl
    rw [e1, e2]
    exact fix_nan hn w
  | normal s E f h h1 h2 hf =>
    have hr : double.read x = .number s (4503599627370496 + f) ((E : Int) - 1075) := by rw [h]; exact read_normal s h1 h2 hf
    obtain ⟨e1, e2, hn⟩ := hnum hr
    have hN : Normal x E := by rw [h]; exact normal_of s h1 h2 hf
    by_cases hE : E ≤ 2030
    · have hy : double.mul 4607182418800017408 (expW x (16 + ((E : Int) - 1023) + 1023)) = some (sw s + ((E + 16) * 4503599627370496 + f)) := by
        rw [h, expW_of s (F := E + 16) (by omega) h2 (by omega) hf]
        exact mul_one_word s (by omega) (by omega) hf
      have hr2 := read_normal s (E := E + 16) (f := f) (by omega) (by omega) hf
      have e3 : (E : Int) - 1075 + 16 = ((E + 16 : Nat) : Int) - 1075 := by omega
      rw [e1, e2, e3]
      exact fix_run hn (ldexp_normal hN hE hy) (fixOf_number hr2 (by omega) (by omega) (by omega)) w
    · have e3 : fixW s (4503599627370496 + f) ((E : Int) - 1075 + 16) = if s then -2147483648 else 2147483647 := by
        unfold fixW
        rw [if_neg (by omega), if_neg (by omega)]
      have e4 : infN s = sw s + 9218868437227405312 := by cases s <;> decide
      rw [e1, e2, e3]
      refine fix_run hn (ldexp_big hN (by omega) s (below_zero hr (by omega))) ?_ w
      rw [e4]
      exact fixOf_inf s
  | sub s f h h0 hf =>
    have hr : double.read x = .number s f (-1074) := by rw [h]; exact read_sub s hf
    obtain ⟨e1, e2, hn⟩ := hnum hr
    have e3 : fixW s f (-1074 + 16) = 0 := by unfold fixW; rw [if_pos (by omega)]
    obtain ⟨s0, s1, s2, s3⟩ := small_of s h0 hf
    obtain ⟨E, g, hE1, hE2, hg, hm⟩ := small_times s h0 hf
    rw [← h] at s0 s1 s2 s3 hm
    have hN := normal_of s hE1 (show E ≤ 2046 by omega) hg
    rw [e1, e2, e3]
    by_cases hE : E ≤ 36
    · obtain ⟨k, hk, hrk⟩ := tiny_read s (m := 4503599627370496 + g) (by omega) (by omega) (p := (E : Int) - 1163) (by omega) (by omega)
      have hy : double.mul 4368491638549381120 (expW (sw s + (E * 4503599627370496 + g)) (-36 + ((E : Int) - 1023) + 53 + 1023)) = some (double.nearest s ((4503599627370496 + g) <<< 52) ((E : Int) - 1163)) := by
        rw [expW_of s (F := E + 17) (by omega) (by omega) (by omega) hg]
        have hc : double.read 4368491638549381120 = .number false 4503599627370496 (-105) := by decide +kernel
        unfold Format.mul
        rw [hc, read_normal s (by omega) (by omega) hg]
        show some (double.nearest (false ^^ s) (4503599627370496 * (4503599627370496 + g)) (-105 + (((E + 17 : Nat) : Int) - 1075))) = _
        have e5 : 4503599627370496 * (4503599627370496 + g) = (4503599627370496 + g) <<< 52 := by rw [Nat.shiftLeft_eq]; omega
        have e6 : (-105 + (((E + 17 : Nat) : Int) - 1075)) = (E : Int) - 1163 := by omega
        rw [e5, e6, Bool.false_xor]
      exact fix_run hn (ldexp_sub_low s0 s1 s2 s3 hm hN hE hy) (fixOf_small hrk (by omega) (by decide)) w
    · have hy : double.mul 4607182418800017408 (expW (sw s + (E * 4503599627370496 + g)) (-36 + ((E : Int) - 1023) + 1023)) = some (sw s + ((E - 36) * 4503599627370496 + g)) := by
        rw [expW_of s (F := E - 36) (by omega) (by omega) (by omega) hg]
        exact mul_one_word s (by omega) (by omega) hg
      have hr2 := read_normal s (E := E - 36) (f := g) (by omega) (by omega) hg
      exact fix_run hn (ldexp_sub_high s0 s1 s2 s3 hm hN ⟨by omega, hE2⟩ hy) (fixOf_small hr2 (by omega) (by omega)) w
end Go.Proofs.Ytfinbkpmkgpffaa
