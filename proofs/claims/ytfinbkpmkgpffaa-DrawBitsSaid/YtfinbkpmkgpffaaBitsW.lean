/- The numbers of a seed walked, the program's and the document's. No condition. -/
import Derived.Test.YtfinbkpmkgpffaaBitsLaw
import Derived.Laws.Bits64
namespace Go.Proofs.Ytfinbkpmkgpffaa
open Go.RowKit

theorem seed_form (seed n : Int) : IntKind.u64.wrap (seed + IntKind.u64.wrap (IntKind.u64.wrap (IntKind.u64.wrap n + 1) * 11400714819323198485)) = ((seedN seed n : Nat) : Int) := by
  have h1 : IntKind.u64.wrap (IntKind.u64.wrap (IntKind.u64.wrap n + 1) * 11400714819323198485) = ((n + 1) * 11400714819323198485) % 18446744073709551616 := by
    rw [IntKind.wrap_u64, IntKind.wrap_u64, IntKind.wrap_u64, Int.emod_add_emod, Int.mul_emod, Int.emod_emod_of_dvd _ (Int.dvd_refl _), ← Int.mul_emod]
  rw [h1, IntKind.wrap_u64]
  unfold seedN
  generalize (n + 1) * 11400714819323198485 = z
  omega
theorem step30_form (X : Nat) (h : X < 18446744073709551616) : IntKind.u64.wrap (bits .xor .u64 (X : Int) ((X : Int) / 1073741824) * 13787848793156543929) = ((stepN X 30 13787848793156543929 : Nat) : Int) := mixStep_u64 X 1073741824 13787848793156543929 h
theorem step27_form (X : Nat) (h : X < 18446744073709551616) : IntKind.u64.wrap (bits .xor .u64 (X : Int) ((X : Int) / 134217728) * 10723151780598845931) = ((stepN X 27 10723151780598845931 : Nat) : Int) := mixStep_u64 X 134217728 10723151780598845931 h
theorem xsh31_form (X : Nat) (h : X < 18446744073709551616) : bits .xor .u64 (X : Int) ((X : Int) / 2147483648) = ((X ^^^ X / 2 ^ 31 : Nat) : Int) := xorShift_u64 X 2147483648 h
theorem bits_form (seed n : Int) : bits .xor .u64 ((stepN (stepN (seedN seed n) 30 13787848793156543929) 27 10723151780598845931 : Nat) : Int) (((stepN (stepN (seedN seed n) 30 13787848793156543929) 27 10723151780598845931 : Nat) : Int) / 2147483648) = bitsV seed n := by
  rw [xsh31_form _ (stepN_lt _ _ _)]
  unfold bitsV mixN
  rfl
set_option maxHeartbeats 1600000 in
theorem bits_any (seed n : Int) (w : World) : Calls Try.prog 18 #[.int .u64 seed, .int .i64 n] w fun e w' => e = .returned (.int .u64 (bitsV seed n)) ∧ w = w' := by
  go_enter Try.func18, Try.ntmps18
  go_wp2_with fail
  rw [seed_form, step30_form _ (seedN_lt _ _), step27_form _ (stepN_lt _ _ _), bits_form]
  go_ret
  exact ⟨rfl, rfl⟩
set_option maxHeartbeats 1600000 in
theorem rbits_any (seed n : Int) (w : World) : Calls Try.prog 19 #[.int .u64 seed, .int .i64 n] w fun e w' => e = .returned (.int .u64 (bitsV seed n)) ∧ w = w' := by
  go_enter Try.func19, Try.ntmps19
  go_wp2_with fail
  rw [seed_form, step30_form _ (seedN_lt _ _), step27_form _ (stepN_lt _ _ _), bits_form]
  go_ret
  exact ⟨rfl, rfl⟩
end Go.Proofs.Ytfinbkpmkgpffaa
