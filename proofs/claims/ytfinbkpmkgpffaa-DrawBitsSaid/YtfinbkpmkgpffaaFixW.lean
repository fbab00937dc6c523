/- A number made fixed, walked: the program's way through math.Ldexp and math.RoundToEven. Conditions: each theorem's own. -/
import Derived.Test.YtfinbkpmkgpffaaBase
import Derived.Test.YtfinbkpmkgpffaaFloatLaw
import Derived.Laws.Externs
import Derived.Laws.BitsAll
import Derived.Test.YtfinbkpmkgpffaaNumW
import Derived.WalkLawsBesides
namespace Go.Proofs.Ytfinbkpmkgpffaa
open Go.RowKit

theorem run_fbits (x : Nat) (w : World) : (callFunc 86 #[.float .f64 x]).run Try.prog w = .ok (.value (.int .u64 x)) w := by
  rw [run_callFunc_extern (e := Extern.MathFloatBits.float64bits) Try.func86 (by kernel_rfl) (by kernel_rfl) (by kernel_rfl) (by kernel_rfl)]
  rfl
theorem run_ffrom (x : Int) (w : World) : (callFunc 73 #[.int .u64 x]).run Try.prog w = .ok (.value (.float .f64 x.toNat)) w := by
  rw [run_callFunc_extern (e := Extern.MathFloatBits.float64frombits) Try.func73 (by kernel_rfl) (by kernel_rfl) (by kernel_rfl) (by kernel_rfl)]
  rfl
theorem fisNaN_any (x : Nat) (w : World) : Calls Try.prog 62 #[.float .f64 x] w fun e w' => e = .returned (.bool (isNaNB x)) ∧ w = w' := by
  go_enter Try.func62, Try.ntmps62
  go_wp2_with fail
  go_ret
  exact ⟨rfl, rfl⟩
theorem abs_any (x : Nat) (w : World) : Calls Try.prog 92 #[.float .f64 x] w fun e w' => e = .returned (.float .f64 (absN x)) ∧ w = w' := by
  have HB := run_fbits x
  have HF := run_ffrom
  go_enter Try.func92, Try.ntmps92
  go_wp2_with fail
  go_ret
  exact ⟨rfl, rfl⟩
theorem isInf_any (x : Nat) (w : World) : Calls Try.prog 84 #[.float .f64 x, .int .i64 0] w fun e w' => e = .returned (.bool (isInfB x)) ∧ w = w' := by
  have HA := abs_any x
  go_enter Try.func84, Try.ntmps84
  go_wp2_with ((go_at_call 92); (refine (HA _).mono ?_); (rintro e w1 ⟨rfl, rfl⟩))
  go_ret
  exact ⟨rfl, rfl⟩
theorem normalize_no (x : Nat) (w : World) (h : (FloatKind.f64.format.order (absN x) 4503599627370496 == some .lt) = false) :
    Calls Try.prog 85 #[.float .f64 x] w fun e w' => e = .returned (.tuple #[.float .f64 x, .int .i64 0]) ∧ w = w' := by
  have HA := abs_any x
  go_enter Try.func85, Try.ntmps85
  go_wp2_with ((go_at_call 92); (refine (HA _).mono ?_); (rintro e w1 ⟨rfl, rfl⟩))
  go_ret2
  exact ⟨rfl, rfl⟩
theorem normalize_yes (x r : Nat) (w : World) (h : (FloatKind.f64.format.order (absN x) 4503599627370496 == some .lt) = true) (hm : Ieee.double.mul x 4841369599423283200 = some r) :
    Calls Try.prog 85 #[.float .f64 x] w fun e w' => e = .returned (.tuple #[.float .f64 r, .int .i64 (-52)]) ∧ w = w' := by
  have HA := abs_any x
  have HM := fun (w : World) t => run_float_arith (P := Try.prog) w .mul t .f64 x 4841369599423283200 r hm
  go_enter Try.func85, Try.ntmps85
  go_wp2_with ((go_at_call 92); (refine (HA _).mono ?_); (rintro e w1 ⟨rfl, rfl⟩))
  go_ret2
  exact ⟨rfl, rfl⟩
/-- a word with another exponent -/
def expW (x : Nat) (t : Int) : Nat := (bits .or .u64 (bits .andNot .u64 (x : Int) 9218868437227405312) (t * 4503599627370496)).toNat
set_option maxRecDepth 100000 in
set_option maxHeartbeats 1600000 in
theorem ldexp_normal {x E y : Nat} (h : Normal x E) (hE : E ≤ 2030) (hy : Ieee.double.mul 4607182418800017408 (expW x (16 + ((E : Int) - 1023) + 1023)) = some y) (w : World) :
    Calls Try.prog 75 #[.float .f64 x, .int .i64 16] w fun e w' => e = .returned (.float .f64 y) ∧ w = w' := by
  have HI := isInf_any x
  have HN := fisNaN_any x
  have HNO := fun w => normalize_no x w h.small
  have HB := run_fbits x
  have HF := run_ffrom
  obtain ⟨h0, h1, h2, h3, hf, lo, hi⟩ := h
  have HM := fun (w : World) t => run_float_arith (P := Try.prog) w .mul t .f64 4607182418800017408 _ y hy
  unfold expW at HM
  go_enter Try.func75, Try.ntmps75
  go_wp2_with (first
    | ((go_at_call 84); (refine (HI _).mono ?_); (rintro e w1 ⟨rfl, rfl⟩))
    | ((go_at_call 62); (refine (HN _).mono ?_); (rintro e w1 ⟨rfl, rfl⟩))
    | ((go_at_call 85); (refine (HNO _).mono ?_); (rintro e w1 ⟨rfl, rfl⟩)))
  go_ret
  exact ⟨rfl, rfl⟩
/-- infinity's word -/
def infN (b : Bool) : Nat := if b then 18442240474082181120 else 9218868437227405312
theorem finf_pos (w : World) : Calls Try.prog 61 #[.int .i64 1] w fun e w' => e = .returned (.float .f64 9218868437227405312) ∧ w = w' := by
  have HF := run_ffrom 9218868437227405312
  go_enter Try.func61, Try.ntmps61
  go_wp2_with fail
  go_ret
  exact ⟨rfl, rfl⟩
theorem finf_neg (w : World) : Calls Try.prog 61 #[.int .i64 (-1)] w fun e w' => e = .returned (.float .f64 18442240474082181120) ∧ w = w' := by
  have HF := run_ffrom 18442240474082181120
  go_enter Try.func61, Try.ntmps61
  go_wp2_with fail
  go_ret
  exact ⟨rfl, rfl⟩
set_option maxRecDepth 100000 in
set_option maxHeartbeats 1600000 in
theorem ldexp_big {x E : Nat} (h : Normal x E) (hE : 2031 ≤ E) (b : Bool) (hb : (FloatKind.f64.format.order x 0 == some .lt) = b) (w : World) :
    Calls Try.prog 75 #[.float .f64 x, .int .i64 16] w fun e w' => e = .returned (.float .f64 (infN b)) ∧ w = w' := by
  have HI := isInf_any x
  have HN := fisNaN_any x
  have HNO := fun w => normalize_no x w h.small
  have HB := run_fbits x
  have HF := run_ffrom
  obtain ⟨h0, h1, h2, h3, hf, lo, hi⟩ := h
  cases b <;>
  · go_enter Try.func75, Try.ntmps75
    go_wp2_with (first
      | ((go_at_call 84); (refine (HI _).mono ?_); (rintro e w1 ⟨rfl, rfl⟩))
      | ((go_at_call 62); (refine (HN _).mono ?_); (rintro e w1 ⟨rfl, rfl⟩))
      | ((go_at_call 85); (refine (HNO _).mono ?_); (rintro e w1 ⟨rfl, rfl⟩))
      | ((go_at_call 61); (refine (finf_pos _).mono ?_); (rintro e w1 ⟨rfl, rfl⟩))
      | ((go_at_call 61); (refine (finf_neg _).mono ?_); (rintro e w1 ⟨rfl, rfl⟩)))
    go_ret
    exact ⟨rfl, rfl⟩
theorem ldexp_zero {x : Nat} (h : (FloatKind.f64.format.order x 0 == some .eq) = true) (w : World) :
    Calls Try.prog 75 #[.float .f64 x, .int .i64 16] w fun e w' => e = .returned (.float .f64 x) ∧ w = w' := by
  go_enter Try.func75, Try.ntmps75
  go_wp2_with fail
  go_ret
  exact ⟨rfl, rfl⟩
theorem ldexp_inf {x : Nat} (h : (FloatKind.f64.format.order x 0 == some .eq) = false) (h1 : isInfB x = true) (w : World) :
    Calls Try.prog 75 #[.float .f64 x, .int .i64 16] w fun e w' => e = .returned (.float .f64 x) ∧ w = w' := by
  have HI := isInf_any x
  go_enter Try.func75, Try.ntmps75
  go_wp2_with ((go_at_call 84); (refine (HI _).mono ?_); (rintro e w1 ⟨rfl, rfl⟩))
  go_ret
  exact ⟨rfl, rfl⟩
set_option maxRecDepth 100000 in
set_option maxHeartbeats 1600000 in
theorem ldexp_sub_low {x r E y : Nat} (h0 : (FloatKind.f64.format.order x 0 == some .eq) = false) (h1 : isInfB x = false) (h2 : isNaNB x = false) (h3 : (FloatKind.f64.format.order (absN x) 4503599627370496 == some .lt) = true) (hm : Ieee.double.mul x 4841369599423283200 = some r)
    (h : Normal r E) (hE : E ≤ 36) (hy : Ieee.double.mul 4368491638549381120 (expW r (-36 + ((E : Int) - 1023) + 53 + 1023)) = some y) (w : World) :
    Calls Try.prog 75 #[.float .f64 x, .int .i64 16] w fun e w' => e = .returned (.float .f64 y) ∧ w = w' := by
  have HI := isInf_any x
  have HN := fisNaN_any x
  have HNO := fun w => normalize_yes x r w h3 hm
  have HB := run_fbits r
  have HF := run_ffrom
  obtain ⟨_, _, _, _, hf, lo, hi⟩ := h
  have HM := fun (w : World) t => run_float_arith (P := Try.prog) w .mul t .f64 4368491638549381120 _ y hy
  unfold expW at HM
  clear hm hy
  go_enter Try.func75, Try.ntmps75
  go_wp2_with (first
    | ((go_at_call 84); (refine (HI _).mono ?_); (rintro e w1 ⟨rfl, rfl⟩))
    | ((go_at_call 62); (refine (HN _).mono ?_); (rintro e w1 ⟨rfl, rfl⟩))
    | ((go_at_call 85); (refine (HNO _).mono ?_); (rintro e w1 ⟨rfl, rfl⟩)))
  go_ret
  exact ⟨rfl, rfl⟩
set_option maxRecDepth 100000 in
set_option maxHeartbeats 1600000 in
theorem ldexp_sub_high {x r E y : Nat} (h0 : (FloatKind.f64.format.order x 0 == some .eq) = false) (h1 : isInfB x = false) (h2 : isNaNB x = false) (h3 : (FloatKind.f64.format.order (absN x) 4503599627370496 == some .lt) = true) (hm : Ieee.double.mul x 4841369599423283200 = some r)
    (h : Normal r E) (hE : 37 ≤ E ∧ E ≤ 52) (hy : Ieee.double.mul 4607182418800017408 (expW r (-36 + ((E : Int) - 1023) + 1023)) = some y) (w : World) :
    Calls Try.prog 75 #[.float .f64 x, .int .i64 16] w fun e w' => e = .returned (.float .f64 y) ∧ w = w' := by
  have HI := isInf_any x
  have HN := fisNaN_any x
  have HNO := fun w => normalize_yes x r w h3 hm
  have HB := run_fbits r
  have HF := run_ffrom
  obtain ⟨_, _, _, _, hf, lo, hi⟩ := h
  have HM := fun (w : World) t => run_float_arith (P := Try.prog) w .mul t .f64 4607182418800017408 _ y hy
  unfold expW at HM
  clear hm hy
  go_enter Try.func75, Try.ntmps75
  go_wp2_with (first
    | ((go_at_call 84); (refine (HI _).mono ?_); (rintro e w1 ⟨rfl, rfl⟩))
    | ((go_at_call 62); (refine (HN _).mono ?_); (rintro e w1 ⟨rfl, rfl⟩))
    | ((go_at_call 85); (refine (HNO _).mono ?_); (rintro e w1 ⟨rfl, rfl⟩)))
  go_ret
  exact ⟨rfl, rfl⟩
end Go.Proofs.Ytfinbkpmkgpffaa
