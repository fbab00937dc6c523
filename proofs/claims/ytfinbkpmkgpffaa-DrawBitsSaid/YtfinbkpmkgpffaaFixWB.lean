/- A number made fixed, walked: from its product on. Conditions: each theorem's own. -/
import Derived.Test.YtfinbkpmkgpffaaFixW
namespace Go.Proofs.Ytfinbkpmkgpffaa
open Go.RowKit

theorem ldexp_call {x y : Nat} {n : Int} (h : ∀ w, Calls Try.prog 75 #[.float .f64 x, .int .i64 n] w fun e w' => e = .returned (.float .f64 y) ∧ w = w') (w : World) :
    Calls Try.prog 64 #[.float .f64 x, .int .i64 n] w fun e w' => e = .returned (.float .f64 y) ∧ w = w' := by
  go_enter Try.func64, Try.ntmps64
  go_wp2_with ((go_at_call 75); (refine (h _).mono ?_); (rintro e w1 ⟨rfl, rfl⟩))
  go_ret
  exact ⟨rfl, rfl⟩
theorem run_even (y : Nat) (h : (Ieee.double.read y).isNaN = false) (w : World) : (callFunc 63 #[.float .f64 y]).run Try.prog w = .ok (.value (.float .f64 (evenN y))) w := by
  rw [run_callFunc_extern (e := Extern.MathFloor.toIntegral "math.RoundToEven" .even) Try.func63 (by kernel_rfl) (by kernel_rfl) (by kernel_rfl) (by kernel_rfl)]
  change ((Sem.run Try.prog (Extern.MathFloor.toIntegral.match_1 (fun _ => Sem Value) (Ieee.double.read y) _ _) w).andThen _) = _
  unfold evenN
  cases hd : Ieee.double.read y with
  | nan s t => rw [hd] at h; cases h
  | infinity s => rfl
  | number s m i => rfl
theorem run_min {x y : Nat} (h : (Ieee.double.order x y).isSome = true) (ts : Array TypeId) (t : TypeId) (w : World) : (Builtin.min_ ts t #[.float .f64 x, .float .f64 y]).run Try.prog w = .ok (.float .f64 (minF x y)) w := by
  have e : ∀ a b, FloatKind.f64.format.order a b = Ieee.double.order a b := fun _ _ => rfl
  have e2 : ∀ a, FloatKind.f64.decode a = Ieee.double.read a := fun _ => rfl
  simp only [Builtin.min_, List.foldlM, Builtin.min2, minF, e, e2]
  cases ho : Ieee.double.order x y with
  | none => rw [ho] at h; cases h
  | some o => cases o <;> rfl
theorem run_max {x y : Nat} (h : (Ieee.double.order x y).isSome = true) (ts : Array TypeId) (t : TypeId) (w : World) : (Builtin.max_ ts t #[.float .f64 x, .float .f64 y]).run Try.prog w = .ok (.float .f64 (maxF x y)) w := by
  have e : ∀ a b, FloatKind.f64.format.order a b = Ieee.double.order a b := fun _ _ => rfl
  have e2 : ∀ a, FloatKind.f64.decode a = Ieee.double.read a := fun _ => rfl
  simp only [Builtin.max_, List.foldlM, Builtin.max2, maxF, e, e2]
  cases ho : Ieee.double.order x y with
  | none => rw [ho] at h; cases h
  | some o => cases o <;> rfl
theorem fix_nan {x : Nat} (h : isNaNB x = true) (w : World) : Calls Try.prog 43 #[.float .f64 x] w fun e w' => e = .returned (.tuple #[.int .i64 0, .int .i64 28]) ∧ w = w' := by
  have HN := fisNaN_any x
  go_enter Try.func43, Try.ntmps43
  go_wp2_with ((go_at_call 62); (refine (HN _).mono ?_); (rintro e w1 ⟨rfl, rfl⟩))
  go_ret2
  exact ⟨rfl, rfl⟩
set_option maxHeartbeats 800000 in
theorem fix_run {x y : Nat} {n : Int} (h : isNaNB x = false) (hl : ∀ w, Calls Try.prog 75 #[.float .f64 x, .int .i64 16] w fun e w' => e = .returned (.float .f64 y) ∧ w = w') (hf : FixOf y n) (w : World) :
    Calls Try.prog 43 #[.float .f64 x] w fun e w' => e = .returned (.tuple #[.int .i64 n, .int .i64 0]) ∧ w = w' := by
  have HN := fisNaN_any x
  have HL := ldexp_call hl
  have HE := run_even y hf.nan
  have H1 := run_min hf.o1
  have H2 := run_max hf.o2
  have H3 : ∀ w, (convert 23 2 (.float .f64 (maxF (minF (evenN y) 4746794007244308480) 13970166044103278592))).run Try.prog w = .ok (.int .i64 n) w :=
    fun w => run_convert_float_int w 23 2 .f64 .i64 _ n (by kernel_rfl) (by kernel_rfl) hf.val
  clear hl hf
  generalize maxF (minF (evenN y) 4746794007244308480) 13970166044103278592 = m2 at *
  generalize minF (evenN y) 4746794007244308480 = m1 at *
  generalize evenN y = z at *
  go_enter Try.func43, Try.ntmps43
  go_wp2_with (first
    | ((go_at_call 62); (refine (HN _).mono ?_); (rintro e w1 ⟨rfl, rfl⟩))
    | ((go_at_call 64); (refine (HL _).mono ?_); (rintro e w1 ⟨rfl, rfl⟩)))
  go_ret2
  exact ⟨rfl, rfl⟩
/-- a heat -/
theorem heat_any {x : Nat} {n c : Int} (h : ∀ w, Calls Try.prog 43 #[.float .f64 x] w fun e w' => e = .returned (.tuple #[.int .i64 n, .int .i64 c]) ∧ w = w') (w : World) :
    Calls Try.prog 16 #[.float .f64 x] w fun e w' => e = .returned (.tuple #[.int .i64 (max n 0), .int .i64 c]) ∧ w = w' := by
  by_cases hn : n < 0
  · have e : max n 0 = 0 := by omega
    have hn' : ¬ 0 < n := by omega
    rw [e]
    go_enter Try.func16, Try.ntmps16
    go_wp2_with ((go_at_call 43); (refine (h _).mono ?_); (rintro e w1 ⟨rfl, rfl⟩))
    go_ret2
    exact ⟨rfl, rfl⟩
  · have e : max n 0 = n := by omega
    rw [e]
    go_enter Try.func16, Try.ntmps16
    go_wp2_with ((go_at_call 43); (refine (h _).mono ?_); (rintro e w1 ⟨rfl, rfl⟩))
    go_ret2
    exact ⟨rfl, rfl⟩
end Go.Proofs.Ytfinbkpmkgpffaa
