/- The statements' own 'works' of layer 18 walked: it returns true. No condition. -/
import Derived.Test.YtfinbkpmkgpffaaFixWB
import Derived.Test.YtfinbkpmkgpffaaBitsW
import Derived.Test.YtfinbkpmkgpffaaDrawLaw
namespace Go.Proofs.Ytfinbkpmkgpffaa
open Go.RowKit

theorem fNaN_any (w : World) : Calls Try.prog 60 #[] w fun e w' => e = .returned (.float .f64 9221120237041090561) ∧ w = w' := by
  have HF := run_ffrom 9221120237041090561
  go_enter Try.func60, Try.ntmps60
  go_wp2_with fail
  go_ret
  exact ⟨rfl, rfl⟩
theorem heat_nan (w : World) : Calls Try.prog 16 #[.float .f64 9221120237041090561] w fun e w' => e = .returned (.tuple #[.int .i64 0, .int .i64 28]) ∧ w = w' :=
  heat_any (fix_nan (by decide +kernel)) w
theorem normal_one : Normal 13830554455654793216 1023 := ⟨by decide +kernel, by decide +kernel, by decide +kernel, by decide +kernel, by decide +kernel, by decide, by decide⟩
theorem heat_one (w : World) : Calls Try.prog 16 #[.float .f64 13830554455654793216] w fun e w' => e = .returned (.tuple #[.int .i64 0, .int .i64 0]) ∧ w = w' := by
  have h := heat_any (n := -65536) (c := 0) (fix_run (x := 13830554455654793216) (y := 13902612049692721152) (by decide +kernel) (ldexp_normal normal_one (by decide) (by decide +kernel)) ⟨by decide +kernel, by decide +kernel, by decide +kernel, by decide +kernel⟩) w
  rw [show max (-65536 : Int) 0 = 0 from by decide] at h
  exact h
theorem heat_inf (w : World) : Calls Try.prog 16 #[.float .f64 9218868437227405312] w fun e w' => e = .returned (.tuple #[.int .i64 2147483647, .int .i64 0]) ∧ w = w' := by
  have h := heat_any (n := 2147483647) (c := 0) (fix_run (x := 9218868437227405312) (y := 9218868437227405312) (by decide +kernel) (ldexp_inf (by decide +kernel) (by decide +kernel)) ⟨by decide +kernel, by decide +kernel, by decide +kernel, by decide +kernel⟩) w
  rw [show max (2147483647 : Int) 0 = 2147483647 from by decide] at h
  exact h
theorem wk_bits : bitsV 0 0 = 16294208416658607535 := by decide +kernel
theorem bits_works (w : World) : Calls Try.prog 18 #[.int .u64 0, .int .i64 0] w fun e w' => e = .returned (.int .u64 16294208416658607535) ∧ w = w' := by
  have := bits_any 0 0 w
  rw [wk_bits] at this
  exact this
theorem wk_low : chooseV [0, 0] 2 65536 0 = 0 := by decide +kernel
theorem wk_high : chooseV [0, 0] 2 65536 32768 = 1 := by decide +kernel
theorem wk_none : chooseV [] 2 65536 0 = -1 := by decide +kernel
theorem choose_low {w : World} {A : Option Addr} {c B : Nat} (h : RdI w B .i64 (.slice A 2 c) [0, 0]) : Calls Try.prog 40 #[.slice A 2 c, .int .i64 2, .int .i64 65536, .int .u64 0] w (DrawnInt w 0) := by
  have := choose_any (k := 2) (heat := 65536) (u := 0) h (by decide) (by decide) (by decide)
  rw [wk_low] at this
  exact this
theorem choose_high {w : World} {A : Option Addr} {c B : Nat} (h : RdI w B .i64 (.slice A 2 c) [0, 0]) : Calls Try.prog 40 #[.slice A 2 c, .int .i64 2, .int .i64 65536, .int .u64 32768] w (DrawnInt w 1) := by
  have := choose_any (k := 2) (heat := 65536) (u := 32768) h (by decide) (by decide) (by decide)
  rw [wk_high] at this
  exact this
theorem choose_none (w : World) : Calls Try.prog 40 #[.slice none 0 0, .int .i64 2, .int .i64 65536, .int .u64 0] w (DrawnInt w (-1)) := by
  have := choose_any (w := w) (B := 0) (A := none) (n := 0) (c := 0) (xs := []) (k := 2) (heat := 65536) (u := 0) ⟨none, 0, rfl, Nat.le_refl _, Nat.zero_le _, fun h => absurd h (by simp)⟩ (by decide) (by decide) (by decide)
  rw [wk_none] at this
  exact this
set_option maxRecDepth 100000 in
set_option maxHeartbeats 3200000 in
theorem works18_any (w : World) : Calls Try.prog 42 #[] w (TruePost w) := by
  have h0 : RdI (w.alloc (.cells #[.int .i64 0, .int .i64 0] 2)) (w.alloc (.cells #[.int .i64 0, .int .i64 0] 2)).heap.size .i64 (.slice (some ⟨w.heap.size, 0, none⟩) 2 2) [0, 0] :=
    rowc_rd (d := [0, 0]) (k := 2) (Blk.new w 2 _) (Nat.le_refl _) (Nat.le_refl _) (by unfold maxLen; simp)
  have HR0 := hid_ h0
  clear h0
  have HB0 := hid_ (below_alloc w (.cells #[.int .i64 0, .int .i64 0] 2))
  go_enter Try.func42, Try.ntmps42
  go_wp2_with (first
    | ((go_at_call 60); (refine (fNaN_any _).mono ?_); (rintro e w1 ⟨rfl, rfl⟩); (have K1 : Hid True := trivial))
    | ((go_at_call 61); (refine (finf_pos _).mono ?_); (rintro e w1 ⟨rfl, rfl⟩))
    | ((go_at_call 16); (have h9 := K1); (clear h9); (refine (heat_nan _).mono ?_); (rintro e w1 ⟨rfl, rfl⟩); (clear K1); (have K2 : Hid True := trivial))
    | ((go_at_call 16); (have h9 := K2); (clear h9); (refine (heat_one _).mono ?_); (rintro e w1 ⟨rfl, rfl⟩); (clear K2); (have K3 : Hid True := trivial))
    | ((go_at_call 16); (have h9 := K3); (clear h9); (refine (heat_inf _).mono ?_); (rintro e w1 ⟨rfl, rfl⟩); (clear K3); (have K4 : Hid True := trivial))
    | ((go_at_call 18); (refine (bits_works _).mono ?_); (rintro e w1 ⟨rfl, rfl⟩))
    | ((go_at_call 40); (have h9 := K4); (clear h9); (refine (choose_low HR0.out).mono ?_); (rintro e w1 ⟨rfl, hb⟩); (have HR1 := hid_ (rdi_below HR0.out hb)); (have HB1 := hid_ (below_comp HB0.out hb)); (clear hb K4); (have K5 : Hid True := trivial))
    | ((go_at_call 40); (have h9 := K5); (clear h9); (refine (choose_high HR1.out).mono ?_); (rintro e w2 ⟨rfl, hb⟩); (have HB2 := hid_ (below_comp HB1.out hb)); (clear hb K5); (have K6 : Hid True := trivial))
    | ((go_at_call 40); (have h9 := K6); (clear h9); (refine (choose_none _).mono ?_); (rintro e w3 ⟨rfl, hb⟩); (have HB3 := hid_ (below_comp HB2.out hb)); (clear hb K6)))
  go_ret
  exact ⟨rfl, HB3.out⟩
end Go.Proofs.Ytfinbkpmkgpffaa
