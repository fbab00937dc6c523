/- The curves walked: powers of e, the curve between nought and one, a number times that: the program's and the document's come to the plain ones. No condition. -/
import Derived.Test.YtlpeijaeiioimaaNumW
namespace Go.Proofs.Ytlpeijaeiioimaa
open Go.RowKit

def powL : List Int := [65536, 62757, 60097, 57549, 55109, 52773, 50535, 48393, 46341, 44376, 42495, 40693, 38968, 37316, 35734, 34219, 32768]
def powT (i : Nat) : Int := powL.getD i 0
theorem powT_range : ∀ i : Nat, i ≤ 16 → 32768 ≤ powT i ∧ powT i ≤ 65536 := by decide
theorem powT_step : ∀ i : Nat, i ≤ 15 → 0 ≤ powT i - powT (i + 1) ∧ powT i - powT (i + 1) ≤ 2779 := by decide
/-- e to the power of a number that is not above nought, by its part t of log two -/
def expT (t : Int) : Int := if 16 < t / 65536 then 0 else (powT (t % 65536 / 4096).toNat - (powT (t % 65536 / 4096).toNat - powT ((t % 65536 / 4096).toNat + 1)) * (t % 65536 % 4096) / 4096) / 2 ^ (t / 65536).toNat
def expA (x : Int) : Int := -mulV (min x 0) 94548
def expV (x : Int) : Int := expT (expA x)
def sigP (c : Int) : Int := divV 65536 (65536 + expV (-c))
def sigV (x : Int) : Int := if clampV x < 0 then 65536 - sigP (clampV (-clampV x)) else sigP (clampV x)
def siluV (x : Int) : Int := mulV x (sigV x)

theorem shiftV_sign {x : Int} {n : Nat} (h : x ≤ 0) : shiftV x n ≤ 0 := by
  unfold shiftV
  split
  · exact h
  · rename_i hn
    obtain ⟨hp, hh⟩ := pow_half (n := n) (by omega)
    split
    · have : x = 0 := by omega
      subst this
      rw [Int.zero_add, hp, Int.ediv_eq_zero_of_lt (by omega) (by omega)]
      exact Int.le_refl _
    · have : 0 ≤ (-x + 2 ^ (n - 1)) / 2 ^ n := Int.ediv_nonneg (by omega) (by omega)
      omega
theorem expA_range (x : Int) : 0 ≤ expA x ∧ expA x ≤ 2147483648 := by
  have h := mulV_range (min x 0) 94548
  unfold expA
  refine ⟨?_, by omega⟩
  have h2 : mulV (min x 0) 94548 ≤ 0 := by
    unfold mulV
    have h3 : clampV (min x 0) ≤ 0 := by unfold clampV; omega
    have h4 : clampV 94548 = 94548 := by decide
    rw [h4]
    have h5 := shiftV_sign (x := clampV (min x 0) * 94548) (n := 16) (by omega)
    generalize shiftV (clampV (min x 0) * 94548) 16 = s at *
    unfold clampV
    omega
  omega
theorem expT_range (t : Int) : 0 ≤ expT t ∧ expT t ≤ 65536 := by
  unfold expT
  split
  · omega
  · have h1 := Int.emod_nonneg t (b := 65536) (by decide)
    have h2 := Int.emod_lt_of_pos t (b := 65536) (by decide)
    obtain ⟨i, hi⟩ : ∃ i : Nat, t % 65536 / 4096 = i := ⟨(t % 65536 / 4096).toNat, by omega⟩
    rw [hi, Int.toNat_natCast]
    have h3 := powT_range i (by omega)
    have h4 := powT_step i (by omega)
    have hg : 0 ≤ t % 65536 % 4096 ∧ t % 65536 % 4096 ≤ 4095 := by omega
    generalize t % 65536 % 4096 = g at *
    generalize powT i - powT (i + 1) = d at *
    have h5 : 0 ≤ d * g := Int.mul_nonneg h4.1 hg.1
    have h6 : d * g ≤ 2779 * 4095 := Int.mul_le_mul h4.2 hg.2 hg.1 (by decide)
    have h7 : 0 ≤ d * g / 4096 ∧ d * g / 4096 ≤ 2779 := by omega
    generalize d * g / 4096 = e at *
    have hp : 1 ≤ (2 : Int) ^ (t / 65536).toNat := by have := Int.pow_pos (n := 2) (m := (t / 65536).toNat) (by decide); omega
    exact ⟨Int.ediv_nonneg (by omega) (by omega), Int.le_trans (Int.ediv_le_self _ (by omega)) (by omega)⟩
theorem expV_range (x : Int) : 0 ≤ expV x ∧ expV x ≤ 65536 := expT_range _

theorem Try.powIndex0 (w : World) : (Instr.index 144 (.agg #[.int .i64 65536, .int .i64 62757, .int .i64 60097, .int .i64 57549, .int .i64 55109, .int .i64 52773, .int .i64 50535, .int .i64 48393, .int .i64 46341, .int .i64 44376, .int .i64 42495, .int .i64 40693, .int .i64 38968, .int .i64 37316, .int .i64 35734, .int .i64 34219, .int .i64 32768]) (.int .i64 0)).run Try.prog w = .ok (.int .i64 65536) w := by kernel_rfl
theorem Try.powIndex1 (w : World) : (Instr.index 144 (.agg #[.int .i64 65536, .int .i64 62757, .int .i64 60097, .int .i64 57549, .int .i64 55109, .int .i64 52773, .int .i64 50535, .int .i64 48393, .int .i64 46341, .int .i64 44376, .int .i64 42495, .int .i64 40693, .int .i64 38968, .int .i64 37316, .int .i64 35734, .int .i64 34219, .int .i64 32768]) (.int .i64 1)).run Try.prog w = .ok (.int .i64 62757) w := by kernel_rfl
theorem Try.powIndex2 (w : World) : (Instr.index 144 (.agg #[.int .i64 65536, .int .i64 62757, .int .i64 60097, .int .i64 57549, .int .i64 55109, .int .i64 52773, .int .i64 50535, .int .i64 48393, .int .i64 46341, .int .i64 44376, .int .i64 42495, .int .i64 40693, .int .i64 38968, .int .i64 37316, .int .i64 35734, .int .i64 34219, .int .i64 32768]) (.int .i64 2)).run Try.prog w = .ok (.int .i64 60097) w := by kernel_rfl
theorem Try.powIndex3 (w : World) : (Instr.index 144 (.agg #[.int .i64 65536, .int .i64 62757, .int .i64 60097, .int .i64 57549, .int .i64 55109, .int .i64 52773, .int .i64 50535, .int .i64 48393, .int .i64 46341, .int .i64 44376, .int .i64 42495, .int .i64 40693, .int .i64 38968, .int .i64 37316, .int .i64 35734, .int .i64 34219, .int .i64 32768]) (.int .i64 3)).run Try.prog w = .ok (.int .i64 57549) w := by kernel_rfl
theorem Try.powIndex4 (w : World) : (Instr.index 144 (.agg #[.int .i64 65536, .int .i64 62757, .int .i64 60097, .int .i64 57549, .int .i64 55109, .int .i64 52773, .int .i64 50535, .int .i64 48393, .int .i64 46341, .int .i64 44376, .int .i64 42495, .int .i64 40693, .int .i64 38968, .int .i64 37316, .int .i64 35734, .int .i64 34219, .int .i64 32768]) (.int .i64 4)).run Try.prog w = .ok (.int .i64 55109) w := by kernel_rfl
theorem Try.powIndex5 (w : World) : (Instr.index 144 (.agg #[.int .i64 65536, .int .i64 62757, .int .i64 60097, .int .i64 57549, .int .i64 55109, .int .i64 52773, .int .i64 50535, .int .i64 48393, .int .i64 46341, .int .i64 44376, .int .i64 42495, .int .i64 40693, .int .i64 38968, .int .i64 37316, .int .i64 35734, .int .i64 34219, .int .i64 32768]) (.int .i64 5)).run Try.prog w = .ok (.int .i64 52773) w := by kernel_rfl
theorem Try.powIndex6 (w : World) : (Instr.index 144 (.agg #[.int .i64 65536, .int .i64 62757, .int .i64 60097, .int .i64 57549, .int .i64 55109, .int .i64 52773, .int .i64 50535, .int .i64 48393, .int .i64 46341, .int .i64 44376, .int .i64 42495, .int .i64 40693, .int .i64 38968, .int .i64 37316, .int .i64 35734, .int .i64 34219, .int .i64 32768]) (.int .i64 6)).run Try.prog w = .ok (.int .i64 50535) w := by kernel_rfl
theorem Try.powIndex7 (w : World) : (Instr.index 144 (.agg #[.int .i64 65536, .int .i64 62757, .int .i64 60097, .int .i64 57549, .int .i64 55109, .int .i64 52773, .int .i64 50535, .int .i64 48393, .int .i64 46341, .int .i64 44376, .int .i64 42495, .int .i64 40693, .int .i64 38968, .int .i64 37316, .int .i64 35734, .int .i64 34219, .int .i64 32768]) (.int .i64 7)).run Try.prog w = .ok (.int .i64 48393) w := by kernel_rfl
theorem Try.powIndex8 (w : World) : (Instr.index 144 (.agg #[.int .i64 65536, .int .i64 62757, .int .i64 60097, .int .i64 57549, .int .i64 55109, .int .i64 52773, .int .i64 50535, .int .i64 48393, .int .i64 46341, .int .i64 44376, .int .i64 42495, .int .i64 40693, .int .i64 38968, .int .i64 37316, .int .i64 35734, .int .i64 34219, .int .i64 32768]) (.int .i64 8)).run Try.prog w = .ok (.int .i64 46341) w := by kernel_rfl
theorem Try.powIndex9 (w : World) : (Instr.index 144 (.agg #[.int .i64 65536, .int .i64 62757, .int .i64 60097, .int .i64 57549, .int .i64 55109, .int .i64 52773, .int .i64 50535, .int .i64 48393, .int .i64 46341, .int .i64 44376, .int .i64 42495, .int .i64 40693, .int .i64 38968, .int .i64 37316, .int .i64 35734, .int .i64 34219, .int .i64 32768]) (.int .i64 9)).run Try.prog w = .ok (.int .i64 44376) w := by kernel_rfl
theorem Try.powIndex10 (w : World) : (Instr.index 144 (.agg #[.int .i64 65536, .int .i64 62757, .int .i64 60097, .int .i64 57549, .int .i64 55109, .int .i64 52773, .int .i64 50535, .int .i64 48393, .int .i64 46341, .int .i64 44376, .int .i64 42495, .int .i64 40693, .int .i64 38968, .int .i64 37316, .int .i64 35734, .int .i64 34219, .int .i64 32768]) (.int .i64 10)).run Try.prog w = .ok (.int .i64 42495) w := by kernel_rfl
theorem Try.powIndex11 (w : World) : (Instr.index 144 (.agg #[.int .i64 65536, .int .i64 62757, .int .i64 60097, .int .i64 57549, .int .i64 55109, .int .i64 52773, .int .i64 50535, .int .i64 48393, .int .i64 46341, .int .i64 44376, .int .i64 42495, .int .i64 40693, .int .i64 38968, .int .i64 37316, .int .i64 35734, .int .i64 34219, .int .i64 32768]) (.int .i64 11)).run Try.prog w = .ok (.int .i64 40693) w := by kernel_rfl
theorem Try.powIndex12 (w : World) : (Instr.index 144 (.agg #[.int .i64 65536, .int .i64 62757, .int .i64 60097, .int .i64 57549, .int .i64 55109, .int .i64 52773, .int .i64 50535, .int .i64 48393, .int .i64 46341, .int .i64 44376, .int .i64 42495, .int .i64 40693, .int .i64 38968, .int .i64 37316, .int .i64 35734, .int .i64 34219, .int .i64 32768]) (.int .i64 12)).run Try.prog w = .ok (.int .i64 38968) w := by kernel_rfl
theorem Try.powIndex13 (w : World) : (Instr.index 144 (.agg #[.int .i64 65536, .int .i64 62757, .int .i64 60097, .int .i64 57549, .int .i64 55109, .int .i64 52773, .int .i64 50535, .int .i64 48393, .int .i64 46341, .int .i64 44376, .int .i64 42495, .int .i64 40693, .int .i64 38968, .int .i64 37316, .int .i64 35734, .int .i64 34219, .int .i64 32768]) (.int .i64 13)).run Try.prog w = .ok (.int .i64 37316) w := by kernel_rfl
theorem Try.powIndex14 (w : World) : (Instr.index 144 (.agg #[.int .i64 65536, .int .i64 62757, .int .i64 60097, .int .i64 57549, .int .i64 55109, .int .i64 52773, .int .i64 50535, .int .i64 48393, .int .i64 46341, .int .i64 44376, .int .i64 42495, .int .i64 40693, .int .i64 38968, .int .i64 37316, .int .i64 35734, .int .i64 34219, .int .i64 32768]) (.int .i64 14)).run Try.prog w = .ok (.int .i64 35734) w := by kernel_rfl
theorem Try.powIndex15 (w : World) : (Instr.index 144 (.agg #[.int .i64 65536, .int .i64 62757, .int .i64 60097, .int .i64 57549, .int .i64 55109, .int .i64 52773, .int .i64 50535, .int .i64 48393, .int .i64 46341, .int .i64 44376, .int .i64 42495, .int .i64 40693, .int .i64 38968, .int .i64 37316, .int .i64 35734, .int .i64 34219, .int .i64 32768]) (.int .i64 15)).run Try.prog w = .ok (.int .i64 34219) w := by kernel_rfl
theorem Try.powIndex16 (w : World) : (Instr.index 144 (.agg #[.int .i64 65536, .int .i64 62757, .int .i64 60097, .int .i64 57549, .int .i64 55109, .int .i64 52773, .int .i64 50535, .int .i64 48393, .int .i64 46341, .int .i64 44376, .int .i64 42495, .int .i64 40693, .int .i64 38968, .int .i64 37316, .int .i64 35734, .int .i64 34219, .int .i64 32768]) (.int .i64 16)).run Try.prog w = .ok (.int .i64 32768) w := by kernel_rfl
theorem Try.powIndex (j : Nat) (hj : j ≤ 16) (w : World) : (Instr.index 144 (.agg #[.int .i64 65536, .int .i64 62757, .int .i64 60097, .int .i64 57549, .int .i64 55109, .int .i64 52773, .int .i64 50535, .int .i64 48393, .int .i64 46341, .int .i64 44376, .int .i64 42495, .int .i64 40693, .int .i64 38968, .int .i64 37316, .int .i64 35734, .int .i64 34219, .int .i64 32768]) (.int .i64 (j : Int))).run Try.prog w = .ok (.int .i64 (powT j)) w := by
  have h : j = 0 ∨ j = 1 ∨ j = 2 ∨ j = 3 ∨ j = 4 ∨ j = 5 ∨ j = 6 ∨ j = 7 ∨ j = 8 ∨ j = 9 ∨ j = 10 ∨ j = 11 ∨ j = 12 ∨ j = 13 ∨ j = 14 ∨ j = 15 ∨ j = 16 := by omega
  clear hj
  rcases h with rfl | rfl | rfl | rfl | rfl | rfl | rfl | rfl | rfl | rfl | rfl | rfl | rfl | rfl | rfl | rfl | rfl
  · exact Try.powIndex0 w
  · exact Try.powIndex1 w
  · exact Try.powIndex2 w
  · exact Try.powIndex3 w
  · exact Try.powIndex4 w
  · exact Try.powIndex5 w
  · exact Try.powIndex6 w
  · exact Try.powIndex7 w
  · exact Try.powIndex8 w
  · exact Try.powIndex9 w
  · exact Try.powIndex10 w
  · exact Try.powIndex11 w
  · exact Try.powIndex12 w
  · exact Try.powIndex13 w
  · exact Try.powIndex14 w
  · exact Try.powIndex15 w
  · exact Try.powIndex16 w
set_option maxRecDepth 100000 in
set_option maxHeartbeats 800000 in
theorem powers_any (w : World) (j : Nat) (hj : j ≤ 16) : Calls Try.prog 101 #[.int .i64 (j : Int)] w (fun e w' => e = .returned (.int .i64 (powT j)) ∧ w = w') := by
  have hi := fun w => Try.powIndex j hj w
  go_enter Try.func101, Try.ntmps101
  go_wp2_with fail
  go_ret
  exact ⟨rfl, rfl⟩

/-- the parts of t -/
theorem exp_parts {t : Int} (hA : 0 ≤ t ∧ t ≤ 2147483648) : ∃ (k i : Nat) (f g : Int), t / 65536 = k ∧ t % 65536 = f ∧ f / 4096 = i ∧ f % 4096 = g ∧ k ≤ 32768 ∧ i ≤ 15 ∧ 0 ≤ f ∧ f < 65536 ∧ 0 ≤ g ∧ g ≤ 4095 ∧ bits .and .i64 t 65535 = f ∧ bits .and .i64 f 4095 = g ∧
    expT t = if 16 < k then 0 else (powT i - (powT i - powT (i + 1)) * g / 4096) / 2 ^ k := by
  have h1 := Int.emod_nonneg t (b := 65536) (by decide)
  have h2 := Int.emod_lt_of_pos t (b := 65536) (by decide)
  obtain ⟨k, hk⟩ : ∃ k : Nat, t / 65536 = k := ⟨(t / 65536).toNat, by omega⟩
  obtain ⟨i, hi⟩ : ∃ i : Nat, t % 65536 / 4096 = i := ⟨(t % 65536 / 4096).toNat, by omega⟩
  refine ⟨k, i, t % 65536, t % 65536 % 4096, hk, rfl, hi, rfl, by omega, by omega, h1, h2, by omega, by omega, mask_i64 t (n := 16) (by decide), mask_i64 (t % 65536) (n := 12) (by decide), ?_⟩
  unfold expT
  rw [hk, hi, Int.toNat_natCast, Int.toNat_natCast]
  by_cases h : 16 < k
  · rw [if_pos h, if_pos (by omega)]
  · rw [if_neg h, if_neg (by omega)]
theorem pow_prod {i : Nat} {g : Int} (hi : i ≤ 15) (h0 : 0 ≤ g) (h1 : g ≤ 4095) : 0 ≤ (powT i - powT (i + 1)) * g ∧ (powT i - powT (i + 1)) * g ≤ 11380005 := by
  have h4 := powT_step i hi
  exact ⟨Int.mul_nonneg h4.1 h0, Int.mul_le_mul h4.2 h1 h0 (by decide)⟩

set_option maxRecDepth 100000 in
set_option maxHeartbeats 1600000 in
theorem exp_a (w : World) {x : Int} (hx : x ≤ 0) : Calls Try.prog 82 #[.int .i64 x] w (fun e w' => e = .returned (.int .i64 (expV x)) ∧ w = w') := by
  obtain ⟨r, hr⟩ : ∃ r, expV x = r := ⟨_, rfl⟩
  rw [hr]
  unfold expV at hr
  have hA := expA_range x
  obtain ⟨t, ht⟩ : ∃ t, expA x = t := ⟨_, rfl⟩
  rw [ht] at hr hA
  have hmul := hid_ (fun w => mul_any w (min x 0) 94548)
  have hm : mulV (min x 0) 94548 = -t := by unfold expA at ht; omega
  rw [hm, Int.min_eq_left (by omega)] at hmul
  clear hm ht
  obtain ⟨k, i, f, g, p1, p2, p3, p4, p5, p6, p7, p8, p9, p10, p11, p12, p13⟩ := exp_parts hA
  rw [p13] at hr
  have d1 := powT_range i (by omega)
  have d2 := powT_range (i + 1) (by omega)
  have d3 := pow_prod p6 p9 p10
  have c1 := hid_ (fun w => powers_any w i (by omega))
  have c2 := hid_ (fun w => powers_any w (i + 1) (by omega))
  rw [Int.natCast_add, Int.cast_ofNat_Int] at c2
  clear p13 p2 p4
  by_cases hk : 16 < k
  · rw [if_pos hk] at hr
    have HR := hid_ hr
    have hk' : (16 : Int) < (k : Int) := by omega
    clear hr
    go_enter Try.func82, Try.ntmps82
    go_wp2_with ((go_at_call 70); (refine (hmul.out _).mono ?_); (rintro e w1 ⟨rfl, rfl⟩))
    go_ret
    exact ⟨by rw [← HR.out]; rfl, rfl⟩
  · rw [if_neg hk] at hr
    have HR := hid_ hr
    have hk' : (k : Int) ≤ 16 := by omega
    clear hr
    go_enter Try.func82, Try.ntmps82
    go_wp2_with (first
      | ((go_at_call 70); (refine (hmul.out _).mono ?_); (rintro e w1 ⟨rfl, rfl⟩))
      | ((go_at_call 101); (refine (c1.out _).mono ?_); (clear c1); (rintro e w1 ⟨rfl, rfl⟩))
      | ((go_at_call 101); (refine (c2.out _).mono ?_); (rintro e w1 ⟨rfl, rfl⟩)))
    go_ret
    exact ⟨by rw [← HR.out]; rfl, rfl⟩
set_option maxRecDepth 100000 in
set_option maxHeartbeats 1600000 in
theorem exp_b (w : World) {x : Int} (hx : 0 < x) : Calls Try.prog 82 #[.int .i64 x] w (fun e w' => e = .returned (.int .i64 (expV x)) ∧ w = w') := by
  obtain ⟨r, hr⟩ : ∃ r, expV x = r := ⟨_, rfl⟩
  rw [hr]
  unfold expV at hr
  have hA := expA_range x
  obtain ⟨t, ht⟩ : ∃ t, expA x = t := ⟨_, rfl⟩
  rw [ht] at hr hA
  have hmul := hid_ (fun w => mul_any w (min x 0) 94548)
  have hm : mulV (min x 0) 94548 = -t := by unfold expA at ht; omega
  rw [hm, Int.min_eq_right (by omega)] at hmul
  clear hm ht
  obtain ⟨k, i, f, g, p1, p2, p3, p4, p5, p6, p7, p8, p9, p10, p11, p12, p13⟩ := exp_parts hA
  rw [p13] at hr
  have d1 := powT_range i (by omega)
  have d2 := powT_range (i + 1) (by omega)
  have d3 := pow_prod p6 p9 p10
  have c1 := hid_ (fun w => powers_any w i (by omega))
  have c2 := hid_ (fun w => powers_any w (i + 1) (by omega))
  rw [Int.natCast_add, Int.cast_ofNat_Int] at c2
  clear p13 p2 p4
  by_cases hk : 16 < k
  · rw [if_pos hk] at hr
    have HR := hid_ hr
    have hk' : (16 : Int) < (k : Int) := by omega
    clear hr
    go_enter Try.func82, Try.ntmps82
    go_wp2_with ((go_at_call 70); (refine (hmul.out _).mono ?_); (rintro e w1 ⟨rfl, rfl⟩))
    go_ret
    exact ⟨by rw [← HR.out]; rfl, rfl⟩
  · rw [if_neg hk] at hr
    have HR := hid_ hr
    have hk' : (k : Int) ≤ 16 := by omega
    clear hr
    go_enter Try.func82, Try.ntmps82
    go_wp2_with (first
      | ((go_at_call 70); (refine (hmul.out _).mono ?_); (rintro e w1 ⟨rfl, rfl⟩))
      | ((go_at_call 101); (refine (c1.out _).mono ?_); (clear c1); (rintro e w1 ⟨rfl, rfl⟩))
      | ((go_at_call 101); (refine (c2.out _).mono ?_); (rintro e w1 ⟨rfl, rfl⟩)))
    go_ret
    exact ⟨by rw [← HR.out]; rfl, rfl⟩
theorem exp_any (w : World) (x : Int) : Calls Try.prog 82 #[.int .i64 x] w (fun e w' => e = .returned (.int .i64 (expV x)) ∧ w = w') := by
  by_cases h : x ≤ 0
  · exact exp_a w h
  · exact exp_b w (by omega)

def powCells : Array Value := #[.int .i64 65536, .int .i64 62757, .int .i64 60097, .int .i64 57549, .int .i64 55109, .int .i64 52773, .int .i64 50535, .int .i64 48393, .int .i64 46341, .int .i64 44376, .int .i64 42495, .int .i64 40693, .int .i64 38968, .int .i64 37316, .int .i64 35734, .int .i64 34219, .int .i64 32768]
theorem powCells_at : ∀ j : Nat, j ≤ 16 → powCells[j]? = some (.int .i64 (powT j)) := by
  intro j hj
  have h : j = 0 ∨ j = 1 ∨ j = 2 ∨ j = 3 ∨ j = 4 ∨ j = 5 ∨ j = 6 ∨ j = 7 ∨ j = 8 ∨ j = 9 ∨ j = 10 ∨ j = 11 ∨ j = 12 ∨ j = 13 ∨ j = 14 ∨ j = 15 ∨ j = 16 := by omega
  rcases h with rfl | rfl | rfl | rfl | rfl | rfl | rfl | rfl | rfl | rfl | rfl | rfl | rfl | rfl | rfl | rfl | rfl <;> rfl
def IntB (w : World) (r : Int) (e : Ending) (w' : World) : Prop := e = .returned (.int .i64 r) ∧ Below w.heap.size w w'
theorem IntB.of_eq {w : World} {r : Int} {e : Ending} {w' : World} (h : e = .returned (.int .i64 r) ∧ w = w') : IntB w r e w' := ⟨h.1, by rw [← h.2]; exact Below.refl _ _⟩
set_option maxRecDepth 100000 in
set_option maxHeartbeats 1600000 in
theorem rexp_a (w : World) {x : Int} (hx : x < 0) : Calls Try.prog 85 #[.int .i64 x] w (IntB w (expV x)) := by
  obtain ⟨r, hr⟩ : ∃ r, expV x = r := ⟨_, rfl⟩
  rw [hr]
  unfold expV at hr
  have hA := expA_range x
  obtain ⟨t, ht⟩ : ∃ t, expA x = t := ⟨_, rfl⟩
  rw [ht] at hr hA
  have hmul := hid_ (fun w => rmul_any w (min 0 x) 94548)
  have hm : mulV (min 0 x) 94548 = -t := by unfold expA at ht; rw [Int.min_comm]; omega
  rw [hm, Int.min_eq_right (by omega)] at hmul
  clear hm ht
  obtain ⟨k, i, f, g, p1, p2, p3, p4, p5, p6, p7, p8, p9, p10, p11, p12, p13⟩ := exp_parts hA
  rw [p13] at hr
  have d1 := powT_range i (by omega)
  have d2 := powT_range (i + 1) (by omega)
  have d3 := pow_prod p6 p9 p10
  have i1 : (i : Int) < 17 := by omega
  have i2 : (i : Int) + 1 < 17 := by omega
  have hB := Blk.new w 2 powCells
  have c1 := hB.cell i
  have c2 := hB.cell (i + 1)
  rw [powCells_at i (by omega)] at c1
  rw [powCells_at (i + 1) (by omega)] at c2
  have hbel : Below w.heap.size w (w.alloc (.cells powCells 2)) := ((Upd.refl (fun _ => False) w).alloc _).toBelow (Nat.le_refl _) (fun _ h => h.elim)
  have HB := hid_ hbel
  clear p13 p11 p12 hB hbel
  unfold powCells at c1 c2
  by_cases hk : 16 < k
  · rw [if_pos hk] at hr
    have HR := hid_ hr
    have hk' : (16 : Int) < (k : Int) := by omega
    clear hr
    go_enter Try.func85, Try.ntmps85
    go_wp2_with ((go_at_call 72); (refine (hmul.out _).mono ?_); (rintro e w1 ⟨rfl, rfl⟩))
    go_quiet (fail)
    go_wp2_with fail
    go_ret
    exact ⟨by rw [← HR.out]; rfl, ((Upd.of_below (S := fun _ => False) HB.out).drewN _).toBelow (Nat.le_refl _) (fun _ h => h.elim)⟩
  · rw [if_neg hk] at hr
    have HR := hid_ hr
    have hk' : (k : Int) ≤ 16 := by omega
    clear hr
    go_enter Try.func85, Try.ntmps85
    go_wp2_with ((go_at_call 72); (refine (hmul.out _).mono ?_); (rintro e w1 ⟨rfl, rfl⟩))
    go_quiet (fail)
    go_wp2_with fail
    go_ret
    exact ⟨by rw [← HR.out]; rfl, ((Upd.of_below (S := fun _ => False) HB.out).drewN _).toBelow (Nat.le_refl _) (fun _ h => h.elim)⟩
set_option maxRecDepth 100000 in
set_option maxHeartbeats 1600000 in
theorem rexp_b (w : World) {x : Int} (hx : 0 ≤ x) : Calls Try.prog 85 #[.int .i64 x] w (IntB w (expV x)) := by
  obtain ⟨r, hr⟩ : ∃ r, expV x = r := ⟨_, rfl⟩
  rw [hr]
  unfold expV at hr
  have hA := expA_range x
  obtain ⟨t, ht⟩ : ∃ t, expA x = t := ⟨_, rfl⟩
  rw [ht] at hr hA
  have hmul := hid_ (fun w => rmul_any w (min 0 x) 94548)
  have hm : mulV (min 0 x) 94548 = -t := by unfold expA at ht; rw [Int.min_comm]; omega
  rw [hm, Int.min_eq_left (by omega)] at hmul
  clear hm ht
  obtain ⟨k, i, f, g, p1, p2, p3, p4, p5, p6, p7, p8, p9, p10, p11, p12, p13⟩ := exp_parts hA
  rw [p13] at hr
  have d1 := powT_range i (by omega)
  have d2 := powT_range (i + 1) (by omega)
  have d3 := pow_prod p6 p9 p10
  have i1 : (i : Int) < 17 := by omega
  have i2 : (i : Int) + 1 < 17 := by omega
  have hB := Blk.new w 2 powCells
  have c1 := hB.cell i
  have c2 := hB.cell (i + 1)
  rw [powCells_at i (by omega)] at c1
  rw [powCells_at (i + 1) (by omega)] at c2
  have hbel : Below w.heap.size w (w.alloc (.cells powCells 2)) := ((Upd.refl (fun _ => False) w).alloc _).toBelow (Nat.le_refl _) (fun _ h => h.elim)
  have HB := hid_ hbel
  clear p13 p11 p12 hB hbel
  unfold powCells at c1 c2
  by_cases hk : 16 < k
  · rw [if_pos hk] at hr
    have HR := hid_ hr
    have hk' : (16 : Int) < (k : Int) := by omega
    clear hr
    go_enter Try.func85, Try.ntmps85
    go_wp2_with ((go_at_call 72); (refine (hmul.out _).mono ?_); (rintro e w1 ⟨rfl, rfl⟩))
    go_quiet (fail)
    go_wp2_with fail
    go_ret
    exact ⟨by rw [← HR.out]; rfl, ((Upd.of_below (S := fun _ => False) HB.out).drewN _).toBelow (Nat.le_refl _) (fun _ h => h.elim)⟩
  · rw [if_neg hk] at hr
    have HR := hid_ hr
    have hk' : (k : Int) ≤ 16 := by omega
    clear hr
    go_enter Try.func85, Try.ntmps85
    go_wp2_with ((go_at_call 72); (refine (hmul.out _).mono ?_); (rintro e w1 ⟨rfl, rfl⟩))
    go_quiet (fail)
    go_wp2_with fail
    go_ret
    exact ⟨by rw [← HR.out]; rfl, ((Upd.of_below (S := fun _ => False) HB.out).drewN _).toBelow (Nat.le_refl _) (fun _ h => h.elim)⟩
theorem rexp_any (w : World) (x : Int) : Calls Try.prog 85 #[.int .i64 x] w (IntB w (expV x)) := by
  rcases Int.lt_or_le x 0 with h | h
  · exact rexp_a w h
  · exact rexp_b w h
theorem sigP_range (c : Int) : -2147483648 ≤ sigP c ∧ sigP c ≤ 2147483647 := divV_range _ _
theorem expB_any (w : World) (x : Int) : Calls Try.prog 82 #[.int .i64 x] w (IntB w (expV x)) := (exp_any w x).mono fun _ _ h => .of_eq h
theorem IntB.comp {w w1 w2 : World} (h1 : Below w.heap.size w w1) (h2 : Below w1.heap.size w1 w2) : Below w.heap.size w w2 := ((Upd.of_below (S := fun _ => False) h1).below h2).toBelow (Nat.le_refl _) (fun _ h => h.elim)

set_option maxHeartbeats 800000 in
theorem sigP_any (w : World) {x : Int} (hx : 0 ≤ clampV x) : Calls Try.prog 71 #[.int .i64 x] w (IntB w (sigP (clampV x))) := by
  obtain ⟨r, hr⟩ : ∃ r, sigP (clampV x) = r := ⟨_, rfl⟩
  rw [hr]
  unfold sigP at hr
  have HR := hid_ hr
  have h1 := clampV_range x
  have h2 := expV_range (-clampV x)
  have HX := hid_ (fun w x => expB_any w x)
  clear hr
  go_enter Try.func71, Try.ntmps71
  go_wp2_with (first
    | ((go_at_call 50); (refine (clamp_any _ _).mono ?_); (rintro e w1 ⟨rfl, rfl⟩))
    | ((go_at_call 82); (refine (HX.out _ _).mono ?_); (rintro e w1 ⟨rfl, hb⟩); (have HB := hid_ hb); (clear hb))
    | ((go_at_call 83); (refine (div_any _ _ _).mono ?_); (rintro e w1 ⟨rfl, rfl⟩)))
  go_ret
  exact ⟨by rw [← HR.out]; rfl, HB.out⟩
set_option maxHeartbeats 800000 in
theorem sig_any (w : World) (x : Int) : Calls Try.prog 71 #[.int .i64 x] w (IntB w (sigV x)) := by
  by_cases hx : 0 ≤ clampV x
  · have e : sigV x = sigP (clampV x) := by rw [sigV, if_neg (by omega)]
    rw [e]
    exact sigP_any w hx
  · obtain ⟨r, hr⟩ : ∃ r, sigV x = r := ⟨_, rfl⟩
    rw [hr, ]
    rw [sigV, if_pos (by omega)] at hr
    have h1 := clampV_range x
    have hP := sigP_any w (x := -clampV x) (by unfold clampV at *; omega)
    have h2 := sigP_range (clampV (-clampV x))
    have HR := hid_ hr
    have HP := hid_ hP
    have hx' : clampV x < 0 := by omega
    clear hr hP hx
    go_enter Try.func71, Try.ntmps71
    go_wp2_with (first
      | ((go_at_call 50); (refine (clamp_any _ _).mono ?_); (rintro e w1 ⟨rfl, rfl⟩))
      | ((go_at_call 71); (refine HP.out.mono ?_); (rintro e w1 ⟨rfl, hb⟩); (have HB := hid_ hb); (clear hb)))
    go_ret
    exact ⟨by rw [← HR.out]; rfl, HB.out⟩
set_option maxHeartbeats 800000 in
theorem rsigP_any (w : World) {x : Int} (hx : 0 ≤ clampV x) : Calls Try.prog 73 #[.int .i64 x] w (IntB w (sigP (clampV x))) := by
  obtain ⟨r, hr⟩ : ∃ r, sigP (clampV x) = r := ⟨_, rfl⟩
  rw [hr]
  unfold sigP at hr
  have HR := hid_ hr
  have h1 := clampV_range x
  have h2 := expV_range (-clampV x)
  have HX := hid_ (fun w x => rexp_any w x)
  clear hr
  go_enter Try.func73, Try.ntmps73
  go_wp2_with (first
    | ((go_at_call 53); (refine (rclamp_any _ _).mono ?_); (rintro e w1 ⟨rfl, rfl⟩))
    | ((go_at_call 85); (refine (HX.out _ _).mono ?_); (rintro e w1 ⟨rfl, hb⟩); (have HB := hid_ hb); (clear hb))
    | ((go_at_call 86); (refine (rdiv_any _ _ _).mono ?_); (rintro e w1 ⟨rfl, rfl⟩)))
  go_ret
  exact ⟨by rw [← HR.out]; rfl, HB.out⟩
set_option maxHeartbeats 800000 in
theorem rsig_any (w : World) (x : Int) : Calls Try.prog 73 #[.int .i64 x] w (IntB w (sigV x)) := by
  by_cases hx : 0 ≤ clampV x
  · have e : sigV x = sigP (clampV x) := by rw [sigV, if_neg (by omega)]
    rw [e]
    exact rsigP_any w hx
  · obtain ⟨r, hr⟩ : ∃ r, sigV x = r := ⟨_, rfl⟩
    rw [hr, ]
    rw [sigV, if_pos (by omega)] at hr
    have h1 := clampV_range x
    have hP := rsigP_any w (x := -clampV x) (by unfold clampV at *; omega)
    have h2 := sigP_range (clampV (-clampV x))
    have HR := hid_ hr
    have HP := hid_ hP
    have hx' : clampV x < 0 := by omega
    clear hr hP hx
    go_enter Try.func73, Try.ntmps73
    go_wp2_with (first
      | ((go_at_call 53); (refine (rclamp_any _ _).mono ?_); (rintro e w1 ⟨rfl, rfl⟩))
      | ((go_at_call 73); (refine HP.out.mono ?_); (rintro e w1 ⟨rfl, hb⟩); (have HB := hid_ hb); (clear hb)))
    go_ret
    exact ⟨by rw [← HR.out]; rfl, HB.out⟩
set_option maxHeartbeats 800000 in
theorem silu_any (w : World) (x : Int) : Calls Try.prog 43 #[.int .i64 x] w (IntB w (siluV x)) := by
  obtain ⟨r, hr⟩ : ∃ r, siluV x = r := ⟨_, rfl⟩
  rw [hr]
  unfold siluV at hr
  have HR := hid_ hr
  have HS := hid_ (sig_any w x)
  clear hr
  go_enter Try.func43, Try.ntmps43
  go_wp2_with (first
    | ((go_at_call 71); (refine HS.out.mono ?_); (rintro e w1 ⟨rfl, hb⟩); (have HB := hid_ hb); (clear hb))
    | ((go_at_call 70); (refine (mul_any _ _ _).mono ?_); (rintro e w1 ⟨rfl, rfl⟩)))
  go_ret
  exact ⟨by rw [← HR.out]; rfl, HB.out⟩
set_option maxHeartbeats 800000 in
theorem rsilu_any (w : World) (x : Int) : Calls Try.prog 44 #[.int .i64 x] w (IntB w (siluV x)) := by
  obtain ⟨r, hr⟩ : ∃ r, siluV x = r := ⟨_, rfl⟩
  rw [hr]
  unfold siluV at hr
  have HR := hid_ hr
  have HS := hid_ (rsig_any w x)
  clear hr
  go_enter Try.func44, Try.ntmps44
  go_wp2_with (first
    | ((go_at_call 73); (refine HS.out.mono ?_); (rintro e w1 ⟨rfl, hb⟩); (have HB := hid_ hb); (clear hb))
    | ((go_at_call 72); (refine (rmul_any _ _ _).mono ?_); (rintro e w1 ⟨rfl, rfl⟩)))
  go_ret
  exact ⟨by rw [← HR.out]; rfl, HB.out⟩
theorem sigV_range (x : Int) : -4294967296 ≤ sigV x ∧ sigV x ≤ 4294967296 := by
  unfold sigV
  have h1 := sigP_range (clampV (-clampV x))
  have h2 := sigP_range (clampV x)
  split <;> omega
end Go.Proofs.Ytlpeijaeiioimaa
