/- Fixed point walked: the program's and the document's Clamp, Add, Shift, Mul, Div come to the plain ones. Conditions: what is added or shifted is of 64 bits. -/
import Derived.Test.YtfinbkpmkgpffaaBase
import Derived.Test.YtfinbkpmkgpffaaNumLaw
namespace Go.Proofs.Ytfinbkpmkgpffaa
open Go.RowKit

theorem ret_int {k : IntKind} {a b : Int} (h : a = b) : Ending.returned (.int k a) = .returned (.int k b) := by rw [h]
theorem quiet_eq {P : Program} {f : FuncId} {args : Array Value} {w : World} {v : Value} (h : Calls P f args w fun e w' => e = .returned v ∧ w = w') : Calls P f args w fun e w' => e = .returned v ∧ w' = w := h.mono fun _ _ ⟨a, b⟩ => ⟨a, b.symm⟩

set_option maxHeartbeats 400000 in
theorem clamp_any (w : World) (x : Int) : Calls Try.prog 50 #[.int .i64 x] w (fun e w' => e = .returned (.int .i64 (clampV x)) ∧ w = w') := by
  by_cases h1 : x < -2147483648
  · have e1 : clampV x = -2147483648 := by unfold clampV; omega
    rw [e1]
    clear e1
    go_enter Try.func50, Try.ntmps50
    go_wp2_with fail
    all_goals first | omega | (go_ret; exact ⟨rfl, rfl⟩)
  · by_cases h2 : 2147483647 < x
    · have e1 : clampV x = 2147483647 := by unfold clampV; omega
      rw [e1]
      clear e1
      go_enter Try.func50, Try.ntmps50
      go_wp2_with fail
      all_goals first | omega | (go_ret; exact ⟨rfl, rfl⟩)
    · have e1 : clampV x = x := by unfold clampV; omega
      rw [e1]
      clear e1
      go_enter Try.func50, Try.ntmps50
      go_wp2_with fail
      all_goals first | omega | (go_ret; exact ⟨by first | rfl | (refine ret_int ?_; show (_ : Int) = _; omega), rfl⟩)
set_option maxHeartbeats 400000 in
theorem rclamp_any (w : World) (x : Int) : Calls Try.prog 70 #[.int .i64 x] w (fun e w' => e = .returned (.int .i64 (clampV x)) ∧ w = w') := by
  by_cases h1 : x < -2147483648
  · have e1 : clampV x = -2147483648 := by unfold clampV; omega
    rw [e1]
    clear e1
    go_enter Try.func70, Try.ntmps70
    go_wp2_with fail
    all_goals first | omega | (go_ret; exact ⟨rfl, rfl⟩)
  · by_cases h2 : 2147483647 < x
    · have e1 : clampV x = 2147483647 := by unfold clampV; omega
      rw [e1]
      clear e1
      go_enter Try.func70, Try.ntmps70
      go_wp2_with fail
      all_goals first | omega | (go_ret; exact ⟨rfl, rfl⟩)
    · have e1 : clampV x = x := by unfold clampV; omega
      rw [e1]
      clear e1
      go_enter Try.func70, Try.ntmps70
      go_wp2_with fail
      all_goals first | omega | (go_ret; exact ⟨by first | rfl | (refine ret_int ?_; show (_ : Int) = _; omega), rfl⟩)

theorem wrap64_def (n : Int) : wrap64 n = (n + 9223372036854775808) % 18446744073709551616 - 9223372036854775808 := by unfold wrap64; rfl
theorem w64_id {x : Int} (h : InI64 x) : wrap64 x = x := by
  unfold InI64 at h
  rw [wrap64_def]
  omega
set_option maxHeartbeats 800000 in
theorem shift_any (w : World) {x : Int} (n : Nat) (hn : n ≤ 62) (hx : InI64 x) : Calls Try.prog 90 #[.int .i64 x, .int .i64 (n : Int)] w (fun e w' => e = .returned (.int .i64 (shiftV x n)) ∧ w = w') := by
  by_cases h0 : n = 0
  · subst h0
    have e0 : shiftV x 0 = x := by unfold shiftV; rw [if_pos rfl]
    have HE := hid_ e0
    clear e0 hx hn
    go_enter Try.func90, Try.ntmps90
    go_wp2_with fail
    go_ret
    exact ⟨by rw [HE.out]; rfl, rfl⟩
  have h1 : 1 ≤ n := by omega
  have hz : ((n : Int) == 0) = false := by rw [beq_eq_false_iff_ne]; omega
  have hP := pow_le62 hn
  have hP2 := pow_half h1
  have hM := mask_i64 x hn
  have hS := shiftV_eq (x := x) h1
  have hB := shiftV_bound (n := n) hx
  have hq := Int.mul_ediv_add_emod x (2 ^ n)
  have hr0 := Int.emod_nonneg x (b := 2 ^ n) (by omega)
  have q1 : wrap64 ((2 : Int) ^ n) = 2 ^ n := w64_id (by unfold InI64; omega)
  have q2 : wrap64 ((2 : Int) ^ n - 1) = 2 ^ n - 1 := w64_id (by unfold InI64; omega)
  have q3 : wrap64 ((2 : Int) ^ (n - 1)) = 2 ^ (n - 1) := w64_id (by unfold InI64; omega)
  obtain ⟨res, hres⟩ : ∃ res, shiftV x n = res := ⟨_, rfl⟩
  rw [hres] at hS hB ⊢
  by_cases c1 : 2 ^ (n - 1) < x % 2 ^ n
  · rw [if_pos (.inl c1)] at hS
    have q4 : wrap64 (x / 2 ^ n + 1) = res := by rw [← hS]; exact w64_id hB
    have HQ := hid_ q4
    clear hS hB hP hP2 hq hr0 hres hx q4
    go_enter Try.func90, Try.ntmps90
    go_wp2_with fail
    go_ret
    exact ⟨by rw [← HQ.out]; rfl, rfl⟩
  · by_cases c2 : x % 2 ^ n = 2 ^ (n - 1)
    · have hb : (x % 2 ^ n == 2 ^ (n - 1)) = true := beq_iff_eq.2 c2
      by_cases c3 : 0 < x
      · rw [if_pos (.inr ⟨c2, c3⟩)] at hS
        have q4 : wrap64 (x / 2 ^ n + 1) = res := by rw [← hS]; exact w64_id hB
        have HQ := hid_ q4
        clear hS hB hP hP2 hq hr0 hres hx q4 c2
        go_enter Try.func90, Try.ntmps90
        go_wp2_with fail
        go_ret
        exact ⟨by rw [← HQ.out]; rfl, rfl⟩
      · rw [if_neg (by omega), Int.add_zero] at hS
        have HQ := hid_ hS
        clear hS hB hP hP2 hq hr0 hres hx c2
        go_enter Try.func90, Try.ntmps90
        go_wp2_with fail
        go_ret
        exact ⟨by rw [HQ.out]; rfl, rfl⟩
    · have hb : (x % 2 ^ n == 2 ^ (n - 1)) = false := beq_eq_false_iff_ne.2 c2
      rw [if_neg (by omega), Int.add_zero] at hS
      have HQ := hid_ hS
      clear hS hB hP hP2 hq hr0 hres hx
      go_enter Try.func90, Try.ntmps90
      go_wp2_with fail
      go_ret
      exact ⟨by rw [HQ.out]; rfl, rfl⟩
theorem div_pow_bound {x : Int} {n : Nat} (h1 : 1 ≤ n) (hx : 0 ≤ x) (hx2 : x ≤ 9223372036854775808) : 0 ≤ x / 2 ^ n ∧ x / 2 ^ n ≤ 4611686018427387904 := by
  obtain ⟨hp, hh⟩ := pow_half h1
  refine ⟨Int.ediv_nonneg hx (by omega), ?_⟩
  rw [hp, ← Int.ediv_ediv_of_nonneg (by omega)]
  exact Int.le_trans (Int.ediv_le_self _ (by omega)) (by omega)
set_option maxHeartbeats 800000 in
theorem rshift_any (w : World) {x : Int} (n : Nat) (hn : n < 62) (hx : InI64 x) : Calls Try.prog 91 #[.int .i64 x, .int .i64 (n : Int)] w (fun e w' => e = .returned (.int .i64 (shiftV x n)) ∧ w = w') := by
  by_cases h0 : n = 0
  · subst h0
    have e0 : shiftV x 0 = x := by unfold shiftV; rw [if_pos rfl]
    have HE := hid_ e0
    clear e0 hx hn
    go_enter Try.func91, Try.ntmps91
    go_wp2_with fail
    go_ret
    exact ⟨by rw [HE.out]; rfl, rfl⟩
  have h1 : 1 ≤ n := by omega
  have hz : ((n : Int) == 0) = false := by rw [beq_eq_false_iff_ne]; omega
  unfold InI64 at hx
  obtain ⟨res, hres⟩ : ∃ res, shiftV x n = res := ⟨_, rfl⟩
  rw [hres]
  rw [shiftV, if_neg h0] at hres
  by_cases hx0 : 0 ≤ x
  · rw [if_pos hx0, half_up h1] at hres
    obtain ⟨hq0, hq1⟩ := div_pow_bound (x := x) h1 hx0 (by omega)
    have ht : 0 ≤ x / 2 ^ (n - 1) := Int.ediv_nonneg hx0 (by have := (pow_half h1).2; omega)
    by_cases hc : x / 2 ^ (n - 1) % 2 = 1
    · rw [if_pos hc] at hres
      have hb : (x / 2 ^ (n - 1) % 2 == 1) = true := beq_iff_eq.2 hc
      have HR := hid_ hres
      clear hres hc
      go_enter Try.func91, Try.ntmps91
      go_wp2_with fail
      go_ret
      exact ⟨by rw [← HR.out]; rfl, rfl⟩
    · rw [if_neg hc, Int.add_zero] at hres
      have hb : (x / 2 ^ (n - 1) % 2 == 1) = false := beq_eq_false_iff_ne.2 hc
      have HR := hid_ hres
      clear hres hc
      go_enter Try.func91, Try.ntmps91
      go_wp2_with fail
      go_ret
      exact ⟨by rw [← HR.out]; rfl, rfl⟩
  · obtain ⟨y, rfl⟩ : ∃ y, x = -y := ⟨-x, by omega⟩
    rw [if_neg hx0, Int.neg_neg, half_up h1] at hres
    obtain ⟨hq0, hq1⟩ := div_pow_bound (x := y) h1 (by omega) (by omega)
    have ht : 0 ≤ y / 2 ^ (n - 1) := Int.ediv_nonneg (by omega) (by have := (pow_half h1).2; omega)
    have hy1 : 0 < y := by omega
    have hy2 : y ≤ 9223372036854775808 := by omega
    have hnn : -(-y + 1) + 1 = y := by omega
    clear hx0 hx
    by_cases hc : y / 2 ^ (n - 1) % 2 = 1
    · rw [if_pos hc] at hres
      have hb : (y / 2 ^ (n - 1) % 2 == 1) = true := beq_iff_eq.2 hc
      have HR := hid_ hres
      clear hres hc
      go_enter Try.func91, Try.ntmps91
      go_wp2_with fail
      go_ret
      exact ⟨by rw [← HR.out]; rfl, rfl⟩
    · rw [if_neg hc, Int.add_zero] at hres
      have hb : (y / 2 ^ (n - 1) % 2 == 1) = false := beq_eq_false_iff_ne.2 hc
      have HR := hid_ hres
      clear hres hc
      go_enter Try.func91, Try.ntmps91
      go_wp2_with fail
      go_ret
      exact ⟨by rw [← HR.out]; rfl, rfl⟩

set_option maxHeartbeats 800000 in
theorem mul_any (w : World) (a b : Int) : Calls Try.prog 81 #[.int .i64 a, .int .i64 b] w (fun e w' => e = .returned (.int .i64 (mulV a b)) ∧ w = w') := by
  obtain ⟨r, hr⟩ : ∃ r, mulV a b = r := ⟨_, rfl⟩
  rw [hr]
  unfold mulV at hr
  have HR := hid_ hr
  have h1 := clampV_range a
  have h2 := clampV_range b
  have h3 := clamp_prod a b
  have HS := hid_ (fun w => shift_any w 16 (by omega) (clamp_prod_i64 a b))
  have HC := hid_ (fun w x => clamp_any w x)
  clear hr
  go_enter Try.func81, Try.ntmps81
  go_wp2_with (first
    | ((go_at_call 90); (refine (HS.out _).mono ?_); (rintro e w1 ⟨rfl, rfl⟩))
    | ((go_at_call 50); (refine (HC.out _ _).mono ?_); (rintro e w1 ⟨rfl, rfl⟩)))
  go_ret
  exact ⟨by rw [← HR.out]; rfl, rfl⟩
set_option maxHeartbeats 800000 in
theorem rmul_any (w : World) (a b : Int) : Calls Try.prog 83 #[.int .i64 a, .int .i64 b] w (fun e w' => e = .returned (.int .i64 (mulV a b)) ∧ w = w') := by
  obtain ⟨r, hr⟩ : ∃ r, mulV a b = r := ⟨_, rfl⟩
  rw [hr]
  unfold mulV at hr
  have HR := hid_ hr
  have h1 := clampV_range a
  have h2 := clampV_range b
  have h3 := clamp_prod a b
  have HS := hid_ (fun w => rshift_any w 16 (by omega) (clamp_prod_i64 a b))
  have HC := hid_ (fun w x => rclamp_any w x)
  clear hr
  go_enter Try.func83, Try.ntmps83
  go_wp2_with (first
    | ((go_at_call 91); (refine (HS.out _).mono ?_); (rintro e w1 ⟨rfl, rfl⟩))
    | ((go_at_call 70); (refine (HC.out _ _).mono ?_); (rintro e w1 ⟨rfl, rfl⟩)))
  go_ret
  exact ⟨by rw [← HR.out]; rfl, rfl⟩

theorem tdiv_bound {x y B : Int} (h1 : -B ≤ x) (h2 : x ≤ B) : -B ≤ x.tdiv y ∧ x.tdiv y ≤ B := by
  have h := Int.natAbs_tdiv_le_natAbs x y
  omega
set_option maxHeartbeats 800000 in
theorem div_any (w : World) (a b : Int) : Calls Try.prog 56 #[.int .i64 a, .int .i64 b] w (fun e w' => e = .returned (.int .i64 (divV a b)) ∧ w = w') := by
  obtain ⟨r, hr⟩ : ∃ r, divV a b = r := ⟨_, rfl⟩
  rw [hr]
  unfold divV at hr
  have h1 := clampV_range a
  have h2 := clampV_range b
  have h3 := tdiv_bound (x := clampV a * 65536) (y := clampV b) (B := 140737488355328) (by omega) (by omega)
  have HC := hid_ (fun w x => clamp_any w x)
  by_cases hb : clampV b = 0
  · rw [if_pos hb] at hr
    have hb2 : (clampV b == 0) = true := beq_iff_eq.2 hb
    have hb3 : (clampV b != 0) = false := by rw [hb]; rfl
    by_cases ha : 0 < clampV a
    · rw [if_pos ha] at hr
      have HR := hid_ hr
      clear hr hb h3
      go_enter Try.func56, Try.ntmps56
      go_wp2_with ((go_at_call 50); (refine (HC.out _ _).mono ?_); (rintro e w1 ⟨rfl, rfl⟩))
      go_ret
      exact ⟨by rw [← HR.out]; rfl, rfl⟩
    · rw [if_neg ha] at hr
      by_cases ha2 : clampV a < 0
      · rw [if_pos ha2] at hr
        have HR := hid_ hr
        clear hr hb h3
        go_enter Try.func56, Try.ntmps56
        go_wp2_with ((go_at_call 50); (refine (HC.out _ _).mono ?_); (rintro e w1 ⟨rfl, rfl⟩))
        go_ret
        exact ⟨by rw [← HR.out]; rfl, rfl⟩
      · rw [if_neg ha2] at hr
        have HR := hid_ hr
        clear hr hb h3
        go_enter Try.func56, Try.ntmps56
        go_wp2_with ((go_at_call 50); (refine (HC.out _ _).mono ?_); (rintro e w1 ⟨rfl, rfl⟩))
        go_ret
        exact ⟨by rw [← HR.out]; rfl, rfl⟩
  · rw [if_neg hb] at hr
    have hb2 : (clampV b == 0) = false := beq_eq_false_iff_ne.2 hb
    have hb3 : (clampV b != 0) = true := by rw [bne_iff_ne]; exact hb
    have HR := hid_ hr
    clear hr
    go_enter Try.func56, Try.ntmps56
    go_wp2_with ((go_at_call 50); (refine (HC.out _ _).mono ?_); (rintro e w1 ⟨rfl, rfl⟩))
    go_ret
    exact ⟨by rw [← HR.out]; rfl, rfl⟩
set_option maxHeartbeats 800000 in
theorem rdiv_any (w : World) (a b : Int) : Calls Try.prog 57 #[.int .i64 a, .int .i64 b] w (fun e w' => e = .returned (.int .i64 (divV a b)) ∧ w = w') := by
  obtain ⟨r, hr⟩ : ∃ r, divV a b = r := ⟨_, rfl⟩
  rw [hr]
  unfold divV at hr
  have h1 := clampV_range a
  have h2 := clampV_range b
  have h3 := tdiv_bound (x := clampV a * 65536) (y := clampV b) (B := 140737488355328) (by omega) (by omega)
  have HC := hid_ (fun w x => rclamp_any w x)
  by_cases hb : clampV b = 0
  · rw [if_pos hb] at hr
    have hb2 : (clampV b == 0) = true := beq_iff_eq.2 hb
    have hb3 : (clampV b != 0) = false := by rw [hb]; rfl
    by_cases ha : 0 < clampV a
    · rw [if_pos ha] at hr
      have HR := hid_ hr
      clear hr hb h3
      go_enter Try.func57, Try.ntmps57
      go_wp2_with ((go_at_call 70); (refine (HC.out _ _).mono ?_); (rintro e w1 ⟨rfl, rfl⟩))
      go_ret
      exact ⟨by rw [← HR.out]; rfl, rfl⟩
    · rw [if_neg ha] at hr
      by_cases ha2 : clampV a < 0
      · rw [if_pos ha2] at hr
        have HR := hid_ hr
        clear hr hb h3
        go_enter Try.func57, Try.ntmps57
        go_wp2_with ((go_at_call 70); (refine (HC.out _ _).mono ?_); (rintro e w1 ⟨rfl, rfl⟩))
        go_ret
        exact ⟨by rw [← HR.out]; rfl, rfl⟩
      · rw [if_neg ha2] at hr
        have HR := hid_ hr
        clear hr hb h3
        go_enter Try.func57, Try.ntmps57
        go_wp2_with ((go_at_call 70); (refine (HC.out _ _).mono ?_); (rintro e w1 ⟨rfl, rfl⟩))
        go_ret
        exact ⟨by rw [← HR.out]; rfl, rfl⟩
  · rw [if_neg hb] at hr
    have hb2 : (clampV b == 0) = false := beq_eq_false_iff_ne.2 hb
    have hb3 : (clampV b != 0) = true := by rw [bne_iff_ne]; exact hb
    have HR := hid_ hr
    clear hr
    go_enter Try.func57, Try.ntmps57
    go_wp2_with ((go_at_call 70); (refine (HC.out _ _).mono ?_); (rintro e w1 ⟨rfl, rfl⟩))
    go_ret
    exact ⟨by rw [← HR.out]; rfl, rfl⟩
end Go.Proofs.Ytfinbkpmkgpffaa
