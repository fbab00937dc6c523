/- Whether a configuration is right, walked: the program's and the document's. No condition. -/
import Derived.Test.YtlpeijaeiioimaaBase
import Derived.Test.YtlpeijaeiioimaaNumW
import Derived.Test.YtlpeijaeiioimaaGrow
namespace Go.Proofs.Ytlpeijaeiioimaa
open Go.RowKit

def inB (n lo hi : Int) : Bool := decide (lo ≤ n) && decide (n ≤ hi)
theorem inB_iff {n lo hi : Int} : inB n lo hi = true ↔ lo ≤ n ∧ n ≤ hi := by unfold inB; rw [Bool.and_eq_true, decide_eq_true_eq, decide_eq_true_eq]
theorem cin_any (n lo hi : Int) (w : World) : Calls Try.prog 74 #[.int .i64 n, .int .i64 lo, .int .i64 hi] w fun e w' => e = .returned (.bool (inB n lo hi)) ∧ w = w' := by
  by_cases h : lo ≤ n
  · have e : inB n lo hi = decide (n ≤ hi) := by unfold inB; rw [decide_eq_true h, Bool.true_and]
    rw [e]
    go_enter Try.func74, Try.ntmps74
    go_wp2_with fail
    go_ret
    exact ⟨rfl, rfl⟩
  · have e : inB n lo hi = false := by unfold inB; rw [decide_eq_false h, Bool.false_and]
    rw [e]
    go_enter Try.func74, Try.ntmps74
    go_wp2_with fail
    go_ret
    exact ⟨rfl, rfl⟩
theorem gin_any (n lo hi : Int) (w : World) : Calls Try.prog 75 #[.int .i64 n, .int .i64 lo, .int .i64 hi] w fun e w' => e = .returned (.bool (inB n lo hi)) ∧ w = w' := by
  by_cases h : lo ≤ n
  · have e : inB n lo hi = decide (n ≤ hi) := by unfold inB; rw [decide_eq_true h, Bool.true_and]
    rw [e]
    go_enter Try.func75, Try.ntmps75
    go_wp2_with fail
    go_ret
    exact ⟨rfl, rfl⟩
  · have e : inB n lo hi = false := by unfold inB; rw [decide_eq_false h, Bool.false_and]
    rw [e]
    go_enter Try.func75, Try.ntmps75
    go_wp2_with fail
    go_ret
    exact ⟨rfl, rfl⟩
theorem rin_any (n lo hi : Int) (w : World) : Calls Try.prog 77 #[.int .i64 n, .int .i64 lo, .int .i64 hi] w fun e w' => e = .returned (.bool (inB n lo hi)) ∧ w = w' := by
  by_cases h : lo ≤ n
  · have e : inB n lo hi = decide (n ≤ hi) := by unfold inB; rw [decide_eq_true h, Bool.true_and]
    rw [e]
    go_enter Try.func77, Try.ntmps77
    go_wp2_with fail
    go_ret
    exact ⟨rfl, rfl⟩
  · have e : inB n lo hi = false := by unfold inB; rw [decide_eq_false h, Bool.false_and]
    rw [e]
    go_enter Try.func77, Try.ntmps77
    go_wp2_with fail
    go_ret
    exact ⟨rfl, rfl⟩
theorem below_alloc0 (w : World) (o : Obj) : Below w.heap.size w (w.alloc o) := ((Upd.refl (fun _ => False) w).alloc o).toB
def BoolPost (w : World) (b : Bool) (e : Ending) (w' : World) : Prop := e = .returned (.bool b) ∧ Below w.heap.size w w'
/-- as the program asks it -/
def cfgP (d h L v hd e k wd : Int) : Bool := inB d 2 8 && (inB h 1 d && (!(wrap64 (wrap64 (d.tdiv h) * h) != d) && (!((wrap64 (d.tdiv h)).tmod 2 != 0) &&
  (((e == 0 && k == 0) || (inB e 2 4 && inB k 1 e)) && (inB L 1 2 && (inB v 2 16 && (inB hd 1 8 && inB wd 0 16)))))))
/-- as the document asks it -/
def cfgD (d h L v hd e k wd : Int) : Bool := inB d 2 8 && (!(d.tmod 2 != 0) && (inB h 1 4 && (!(d.tmod h != 0) && (!((wrap64 (d.tdiv h)).tmod 2 != 0) &&
  (inB L 1 2 && (inB v 2 16 && (inB hd 1 8 && (((e == 0 && k == 0) || (inB e 2 4 && inB k 1 e)) && inB wd 0 16))))))))
set_option maxRecDepth 100000 in
set_option maxHeartbeats 3200000 in
theorem cfg_walk (d h L v hd e k wd : Int) (w : World) : Calls Try.prog 45 #[.agg #[.int .i64 d, .int .i64 h, .int .i64 L, .int .i64 v, .int .i64 hd, .int .i64 e, .int .i64 k, .int .i64 wd]] w (BoolPost w (cfgP d h L v hd e k wd)) := by
  have HI := cin_any
  by_cases hh : inB h 1 d = true
  · have hz : ¬ h = 0 := by have := inB_iff.1 hh; omega
    go_enter Try.func45, Try.ntmps45
    go_wp2_with ((go_at_call 74); (refine (HI _ _ _ _).mono ?_); (rintro e w1 ⟨rfl, rfl⟩))
    all_goals go_ret
    all_goals exact ⟨by simp [cfgP, *], below_alloc0 _ _⟩
  · have hh' : inB h 1 d = false := by simpa using hh
    clear hh
    go_enter Try.func45, Try.ntmps45
    go_wp2_with ((go_at_call 74); (refine (HI _ _ _ _).mono ?_); (rintro e w1 ⟨rfl, rfl⟩))
    all_goals (first | go_ret | (exfalso; simp [*] at hh'))
    all_goals exact ⟨by simp [cfgP, *], below_alloc0 _ _⟩
set_option maxRecDepth 100000 in
set_option maxHeartbeats 3200000 in
theorem rcfg_walk (d h L v hd e k wd : Int) (w : World) : Calls Try.prog 47 #[.agg #[.int .i64 d, .int .i64 h, .int .i64 L, .int .i64 v, .int .i64 hd, .int .i64 e, .int .i64 k, .int .i64 wd]] w (BoolPost w (cfgD d h L v hd e k wd)) := by
  have HI := rin_any
  by_cases hh : inB h 1 4 = true
  · have hz : ¬ h = 0 := by have := inB_iff.1 hh; omega
    go_enter Try.func47, Try.ntmps47
    go_wp2_with ((go_at_call 77); (refine (HI _ _ _ _).mono ?_); (rintro e w1 ⟨rfl, rfl⟩))
    all_goals go_ret
    all_goals exact ⟨by simp [cfgD, *], below_alloc0 _ _⟩
  · have hh' : inB h 1 4 = false := by simpa using hh
    clear hh
    go_enter Try.func47, Try.ntmps47
    go_wp2_with ((go_at_call 77); (refine (HI _ _ _ _).mono ?_); (rintro e w1 ⟨rfl, rfl⟩))
    all_goals (first | go_ret | (exfalso; simp [*] at hh'))
    all_goals exact ⟨by simp [cfgD, *], below_alloc0 _ _⟩
end Go.Proofs.Ytlpeijaeiioimaa
