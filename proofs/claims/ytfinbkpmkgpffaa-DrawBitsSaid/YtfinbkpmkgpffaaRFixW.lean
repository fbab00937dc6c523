/- A number made fixed, walked: the document's way. Conditions: each theorem's own. -/
import Derived.Test.YtfinbkpmkgpffaaFixWC
import Derived.Test.YtfinbkpmkgpffaaFloatLawB
namespace Go.Proofs.Ytfinbkpmkgpffaa
open Go.RowKit Ieee

theorem rfix_nan {x : Nat} (h : isNaNB x = true) (w : World) : Calls Try.prog 44 #[.float .f64 x] w fun e w' => e = .returned (.tuple #[.int .i64 0, .int .i64 28]) ∧ w = w' := by
  have h1 : (FloatKind.f64.format.order x x != some .eq) = true := h
  go_enter Try.func44, Try.ntmps44
  go_wp2_with fail
  go_ret2
  exact ⟨rfl, rfl⟩
theorem rfix_high {x : Nat} (h : isNaNB x = false) (o : Ordering) (ho : FloatKind.f64.format.order x 4674736413210574848 = some o) (hc : o = .gt ∨ o = .eq) (w : World) :
    Calls Try.prog 44 #[.float .f64 x] w fun e w' => e = .returned (.tuple #[.int .i64 2147483647, .int .i64 0]) ∧ w = w' := by
  have h1 : (FloatKind.f64.format.order x x != some .eq) = false := h
  rcases hc with rfl | rfl <;>
  · go_enter Try.func44, Try.ntmps44
    go_wp2_with fail
    go_ret2
    exact ⟨rfl, rfl⟩
theorem rfix_low {x : Nat} (h : isNaNB x = false) (ho1 : FloatKind.f64.format.order x 4674736413210574848 = some .lt) (o : Ordering) (ho : FloatKind.f64.format.order x 13898108450065350656 = some o) (hc : o = .lt ∨ o = .eq) (w : World) :
    Calls Try.prog 44 #[.float .f64 x] w fun e w' => e = .returned (.tuple #[.int .i64 (-2147483648), .int .i64 0]) ∧ w = w' := by
  have h1 : (FloatKind.f64.format.order x x != some .eq) = false := h
  rcases hc with rfl | rfl <;>
  · go_enter Try.func44, Try.ntmps44
    go_wp2_with fail
    go_ret2
    exact ⟨rfl, rfl⟩
set_option maxRecDepth 100000 in
set_option maxHeartbeats 3200000 in
theorem rfix_run {x y dd : Nat} {n : Int} (h : isNaNB x = false) (ho1 : FloatKind.f64.format.order x 4674736413210574848 = some .lt) (ho2 : FloatKind.f64.format.order x 13898108450065350656 = some .gt)
    (hy : double.mul x 4679240012837945344 = some y) (hn : floatToIntVal .f64 y .i64 = some n) (hd : double.sub y (floatOfInt .f64 n) = some dd)
    (a b : Ordering) (od : Bool) (ha : FloatKind.f64.format.order dd 4602678819172646912 = some a) (hb : FloatKind.f64.format.order dd 13826050856027422720 = some b) (hod : (n.tmod 2 != 0) = od) (hr : -2147483648 ≤ n ∧ n ≤ 2147483647) (w : World) :
    Calls Try.prog 44 #[.float .f64 x] w fun e w' => e = .returned (.tuple #[.int .i64 (min 2147483647 (moveN n a b od)), .int .i64 0]) ∧ w = w' := by
  have h1 : (FloatKind.f64.format.order x x != some .eq) = false := h
  have HY := fun (w : World) t => run_float_arith (P := Try.prog) w .mul t .f64 x 4679240012837945344 y hy
  have HD := fun (w : World) t => run_float_arith (P := Try.prog) w .sub t .f64 y (floatOfInt .f64 n) dd hd
  have HC : ∀ w, (convert 23 2 (.float .f64 y)).run Try.prog w = .ok (.int .i64 n) w :=
    fun w => run_convert_float_int w 23 2 .f64 .i64 _ n (by kernel_rfl) (by kernel_rfl) hn
  have n1 : wrap64 (n + 1) = n + 1 := w64_id (by unfold InI64; omega)
  have n2 : wrap64 (n - 1) = n - 1 := w64_id (by unfold InI64; omega)
  clear h hy hn hd
  cases a <;> cases b <;> cases od <;>
  · go_enter Try.func44, Try.ntmps44
    go_wp2_with fail
    all_goals go_ret2
    all_goals exact ⟨by simp [moveN] <;> omega, rfl⟩
/-- where a product has a left-over -/
theorem rfix_left {x y : Nat} {s : Bool} {m d : Nat} (h : isNaNB x = false) (ho1 : FloatKind.f64.format.order x 4674736413210574848 = some .lt) (ho2 : FloatKind.f64.format.order x 13898108450065350656 = some .gt)
    (hy : double.mul x 4679240012837945344 = some y) (hr : double.read y = .number s m (-(d : Int))) (h1 : 4503599627370496 ≤ m) (h2 : m < 9007199254740992) (hd1 : 22 ≤ d) (hd2 : d ≤ 1074) (w : World) :
    Calls Try.prog 44 #[.float .f64 x] w fun e w' => e = .returned (.tuple #[.int .i64 (fixW s m (-(d : Int))), .int .i64 0]) ∧ w = w' := by
  obtain ⟨dd, hdd, oa, ob⟩ := left_over hr h1 h2 hd2
  have hq : m / 2 ^ d ≤ 2147483647 := by
    have k1 : 2 ^ 22 ≤ 2 ^ d := Nat.pow_le_pow_right (by decide) hd1
    have k2 : m / 2 ^ d ≤ m / 2 ^ 22 := Nat.div_le_div_left k1 (by decide)
    omega
  have hn : -2147483648 ≤ (if s then -((m / 2 ^ d : Nat) : Int) else ((m / 2 ^ d : Nat) : Int)) ∧ (if s then -((m / 2 ^ d : Nat) : Int) else ((m / 2 ^ d : Nat) : Int)) ≤ 2147483647 := by
    generalize m / 2 ^ d = q at hq
    cases s
    · rw [if_neg (by decide)]; omega
    · rw [if_pos rfl]; omega
  have ht := toIntVal_cut (toInt_cut hr h1 h2 hd2) (by omega) (by omega)
  have := rfix_run h ho1 ho2 hy ht hdd _ _ _ oa ob (odd_of s _) hn w
  rw [join_move s h2 hd1] at this
  exact this
theorem order_small {x : Nat} {s : Bool} {m : Nat} {i : Int} (h : double.read x = .number s m i) (hm : m < 9007199254740992) (hi : i ≤ -38) :
    FloatKind.f64.format.order x 4674736413210574848 = some .lt ∧ FloatKind.f64.format.order x 13898108450065350656 = some .gt := by
  obtain ⟨k, hk⟩ : ∃ k : Nat, -37 = i + k := ⟨(-37 - i).toNat, by omega⟩
  have p : 4503599627370496 * 2 ^ 1 ≤ 4503599627370496 * 2 ^ k := Nat.mul_le_mul_left _ (Nat.pow_le_pow_right (by decide) (by omega))
  have o1 := ford_low h read_32768 k hk
  have o2 := ford_low h read_n32768 k hk
  refine ⟨o1.trans ?_, o2.trans ?_⟩
  · cases s
    · rw [signed_pos, signed_pos, Nat.pow_zero, Nat.mul_one]
      generalize 4503599627370496 * 2 ^ k = X at *
      rw [compare_lt (by omega)]
    · rw [signed_neg, signed_pos, Nat.pow_zero, Nat.mul_one]
      generalize 4503599627370496 * 2 ^ k = X at *
      rw [compare_lt (by omega)]
  · cases s
    · rw [signed_pos, signed_neg, Nat.pow_zero, Nat.mul_one]
      generalize 4503599627370496 * 2 ^ k = X at *
      rw [compare_gt (by omega)]
    · rw [signed_neg, signed_neg, Nat.pow_zero, Nat.mul_one]
      generalize 4503599627370496 * 2 ^ k = X at *
      rw [compare_gt (by omega)]
theorem rfix_any {x : Nat} (hx : x < 18446744073709551616) (w : World) : Calls Try.prog 44 #[.float .f64 x] w fun e w' => e = .returned (.tuple #[.int .i64 (fixN x), .int .i64 (fixE x)]) ∧ w = w' := by
  have hnum : ∀ {s : Bool} {m : Nat} {i : Int}, double.read x = .number s m i → fixN x = fixW s m (i + 16) ∧ fixE x = 0 ∧ isNaNB x = false := by
    intro s m i h
    have hn := nan_no h
    exact ⟨by unfold fixN; rw [h], by unfold fixE; rw [hn]; rfl, hn⟩
  cases word_is hx with
  | zero s h =>
    have hr : double.read x = .number s 0 (-1074) := by rw [h]; exact read_sub s (f := 0) (by decide)
    obtain ⟨e1, e2, hn⟩ := hnum hr
    obtain ⟨o1, o2⟩ := order_small hr (by decide) (by decide)
    have e3 : fixW s 0 (-1074 + 16) = min 2147483647 (moveN 0 .lt .gt false) := by unfold fixW; rw [if_pos (by decide)]; decide
    rw [e1, e2, e3]
    refine rfix_run (y := sw s) (dd := sw s) (n := 0) hn o1 o2 ?_ ?_ ?_ _ _ _ ?_ ?_ (by decide) (by decide) w
    · rw [h]; cases s <;> decide +kernel
    · cases s <;> decide +kernel
    · cases s <;> decide +kernel
    · cases s <;> decide +kernel
    · cases s <;> decide +kernel
  | inf s h =>
    have hr : double.read x = .infinity s := by rw [h]; exact read_inf s
    have hn : isNaNB x = false := by rw [h]; cases s <;> decide +kernel
    have e1 : fixN x = if s then -2147483648 else 2147483647 := by unfold fixN; rw [hr]
    have e2 : fixE x = 0 := by unfold fixE; rw [hn]; rfl
    rw [e1, e2]
    cases s
    · exact rfix_high hn .gt (by rw [h]; decide +kernel) (.inl rfl) w
    · exact rfix_low hn (by rw [h]; decide +kernel) .lt (by rw [h]; decide +kernel) (.inl rfl) w
  | nan s t h =>
    have hn := nan_yes h
    have e1 : fixN x = 0 := by unfold fixN; rw [h]
    have e2 : fixE x = 28 := by unfold fixE; rw [hn]; rfl
    rw [e1, e2]
    exact rfix_nan hn w
  | normal s E f h h1 h2 hf =>
    have hr : double.read x = .number s (4503599627370496 + f) ((E : Int) - 1075) := by rw [h]; exact read_normal s h1 h2 hf
    obtain ⟨e1, e2, hn⟩ := hnum hr
    by_cases hE : E ≤ 1037
    · obtain ⟨o1, o2⟩ := order_small hr (by omega) (by omega)
      have hm := mul_words_right (m := 4503599627370496 + f) read_65536 hr (by omega) (by omega) (by omega) (by omega)
      have e5 : ((E : Int) - 1075 + -36 + 52 + 1074).toNat = E + 15 := by omega
      rw [e5, carry_word _ _ (by omega)] at hm
      have hr2 := read_normal s (E := E + 15 + 1) (f := 4503599627370496 + f - 4503599627370496) (by omega) (by omega) (by omega)
      have e6 : ((E + 15 + 1 : Nat) : Int) - 1075 = -((1059 - E : Nat) : Int) := by omega
      have e7 : 4503599627370496 + (4503599627370496 + f - 4503599627370496) = 4503599627370496 + f := by omega
      have e8 : (E : Int) - 1075 + 16 = -((1059 - E : Nat) : Int) := by omega
      rw [e6, e7] at hr2
      rw [e1, e2, e8]
      exact rfix_left hn o1 o2 hm hr2 (by omega) (by omega) (by omega) (by omega) w
    · obtain ⟨k, hk⟩ : ∃ k : Nat, (E : Int) - 1075 = -37 + k := ⟨(E - 1038), by omega⟩
      have p : (4503599627370496 + f) * 1 ≤ (4503599627370496 + f) * 2 ^ k := Nat.mul_le_mul_left _ (Nat.two_pow_pos k)
      have e3 : fixW s (4503599627370496 + f) ((E : Int) - 1075 + 16) = if s then -2147483648 else 2147483647 := by
        unfold fixW
        rw [if_neg (by omega), if_neg (by omega)]
      have o1 := ford_at hr read_32768 k hk
      have o2 := ford_at hr read_n32768 k hk
      rw [e1, e2, e3]
      cases s
      · rw [signed_pos, signed_pos, Nat.pow_zero, Nat.mul_one] at o1
        generalize (4503599627370496 + f) * 2 ^ k = X at *
        by_cases hX : X = 4503599627370496
        · rw [compare_eq (by omega)] at o1
          exact rfix_high hn .eq o1 (.inr rfl) w
        · rw [compare_gt (by omega)] at o1
          exact rfix_high hn .gt o1 (.inl rfl) w
      · rw [signed_neg, signed_pos, Nat.pow_zero, Nat.mul_one] at o1
        rw [signed_neg, signed_neg, Nat.pow_zero, Nat.mul_one] at o2
        generalize (4503599627370496 + f) * 2 ^ k = X at *
        rw [compare_lt (by omega)] at o1
        by_cases hX : X = 4503599627370496
        · rw [compare_eq (by omega)] at o2
          exact rfix_low hn o1 .eq o2 (.inr rfl) w
        · rw [compare_lt (by omega)] at o2
          exact rfix_low hn o1 .lt o2 (.inl rfl) w
  | sub s f h h0 hf =>
    have hr : double.read x = .number s f (-1074) := by rw [h]; exact read_sub s hf
    obtain ⟨e1, e2, hn⟩ := hnum hr
    obtain ⟨o1, o2⟩ := order_small hr (by omega) (by decide)
    have e3 : fixW s f (-1074 + 16) = 0 := by unfold fixW; rw [if_pos (by decide)]
    rw [e1, e2, e3]
    rcases small_product s h0 hf with ⟨m, d, hm, hrd, m1, m2, d1, d2⟩ | ⟨g, hm, g0, g1⟩
    · rw [← h] at hm
      have e4 : fixW s m (-(d : Int)) = 0 := by unfold fixW; rw [if_pos (by omega)]
      have h9 := rfix_left hn o1 o2 hm hrd m1 m2 (by omega) d2 w
      rw [e4] at h9
      exact h9
    · rw [← h] at hm
      obtain ⟨t1, t2, t3, t4⟩ := small_left s g0 g1
      have ht := toIntVal_cut t1 (by decide) (by decide)
      have ez : floatOfInt .f64 0 = 0 := by decide +kernel
      rw [← ez] at t2
      have e5 : (0 : Int) = min 2147483647 (moveN 0 .lt .gt false) := by decide
      have h9 := rfix_run hn o1 o2 hm ht t2 _ _ _ t3 t4 (show ((0 : Int).tmod 2 != 0) = false by decide) (by decide) w
      rw [← e5] at h9
      exact h9
/-- a heat, the document's -/
theorem rheat_any {x : Nat} {n c : Int} (h : ∀ w, Calls Try.prog 44 #[.float .f64 x] w fun e w' => e = .returned (.tuple #[.int .i64 n, .int .i64 c]) ∧ w = w') (w : World) :
    Calls Try.prog 17 #[.float .f64 x] w fun e w' => e = .returned (.tuple #[.int .i64 (max n 0), .int .i64 c]) ∧ w = w' := by
  by_cases hn : 0 < n
  · have e : max n 0 = n := by omega
    rw [e]
    go_enter Try.func17, Try.ntmps17
    go_wp2_with ((go_at_call 44); (refine (h _).mono ?_); (rintro e w1 ⟨rfl, rfl⟩))
    go_ret2
    exact ⟨rfl, rfl⟩
  · have e : max n 0 = 0 := by omega
    rw [e]
    go_enter Try.func17, Try.ntmps17
    go_wp2_with ((go_at_call 44); (refine (h _).mono ?_); (rintro e w1 ⟨rfl, rfl⟩))
    go_ret2
    exact ⟨rfl, rfl⟩
end Go.Proofs.Ytfinbkpmkgpffaa
