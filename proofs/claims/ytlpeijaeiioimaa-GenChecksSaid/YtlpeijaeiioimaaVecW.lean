/- Sums of products walked, the program's and the document's. Conditions: the slices read as the lists; weights are of 8 bits. -/
import Derived.Test.YtlpeijaeiioimaaCurveW
import Derived.Test.YtlpeijaeiioimaaSame
import Derived.Test.YtlpeijaeiioimaaGrow
namespace Go.Proofs.Ytlpeijaeiioimaa
open Go.RowKit

/-- of the first k places -/
def sumTo (ws xs : List Int) : Nat → Int
  | 0 => 0
  | k + 1 => addV (sumTo ws xs k) (clampV (ws.getD k 0) * clampV (xs.getD k 0))
def sumV (ws xs : List Int) : Int := sumTo ws xs ws.length
def dotV (ws xs : List Int) : Int := clampV (shiftV (sumV ws xs) 6)
def innerV (ws xs : List Int) : Int := clampV (shiftV (sumV ws xs) 16)
theorem sumTo_range (ws xs : List Int) : ∀ k, InI64 (sumTo ws xs k)
  | 0 => by unfold sumTo InI64; omega
  | k + 1 => addV_range _ _
def Wt (ws : List Int) : Prop := ∀ x ∈ ws, -128 ≤ x ∧ x ≤ 127
theorem Wt.at_ {ws : List Int} (h : Wt ws) (k : Nat) : -128 ≤ ws.getD k 0 ∧ ws.getD k 0 ≤ 127 := by
  rw [List.getD_eq_getElem?_getD]
  rcases Nat.lt_or_ge k ws.length with h1 | h1
  · rw [List.getElem?_eq_getElem h1]
    exact h _ (List.getElem_mem h1)
  · rw [List.getElem?_eq_none h1]
    exact ⟨by decide, by decide⟩
theorem Wt.clamp {ws : List Int} (h : Wt ws) (k : Nat) : clampV (ws.getD k 0) = ws.getD k 0 := by
  have := h.at_ k
  exact clampV_id (by omega)
def AnyInts (_ws : List Int) : Prop := True

theorem iw64 {x : Int} (h : InI64 x) : IntKind.i64.wrap x = x := by
  unfold InI64 at h
  rw [IntKind.wrap_i64]
  omega
theorem wt_facts {ws : List Int} (h : Wt ws) (k : Nat) : IntKind.i64.wrap (ws.getD k 0) = ws.getD k 0 := by
  have := h.at_ k
  exact iw64 (by unfold InI64; omega)

set_option maxHeartbeats 800000 in
theorem sum8_any {w : World} {B B' : Nat} {v u : Value} {ws xs : List Int} (hx : RdI w B .i8 v ws) (hy : RdI w B' .i64 u xs) (hw : Wt ws) (hl : ws.length = xs.length) :
    Calls Try.prog 97 #[v, u] w (fun e w' => e = .returned (.int .i64 (sumV ws xs)) ∧ ∃ n, w' = w.drewN n) := by
  obtain ⟨A, c, rfl, hc, hm, hcx⟩ := hx.form
  obtain ⟨A', c', rfl, hc', hm', hcy⟩ := hy.form
  unfold maxLen at hm hm'
  have Hx := hid_ hx
  have Hy := hid_ hy
  have HW := hid_ hw
  rw [← hl] at hm' hc' ⊢
  have HL := hid_ hl
  unfold sumV
  clear hcx hcy hx hy hl hw
  go_enter Try.func97, Try.ntmps97
  go_wp2_with fail
  go_loopw [5, 10] (fun s i wr => ∃ k : Nat, k ≤ ws.length ∧ i = .int .i64 k ∧ s = .int .i64 (sumTo ws xs k) ∧ Hid (∃ n, wr = w.drewN n)) (fun _ i _ => ws.length - (intOf i).toNat)
  case atStart => exact ⟨0, Nat.zero_le _, rfl, rfl, hid_ ⟨0, rfl⟩⟩
  case round =>
    obtain ⟨k, hk, rfl, rfl, HWR⟩ := hrel
    by_cases hlt : k < ws.length
    · obtain ⟨b, o, rfl, c1⟩ := rdi_cell (rdi_drawn Hx.out HWR.out) hlt
      obtain ⟨b', o', rfl, c2⟩ := rdi_cell (rdi_drawn Hy.out HWR.out) (by rw [← HL.out]; exact hlt)
      have hlt' : (k : Int) < (ws.length : Int) := by omega
      have hw := HW.out
      have h9 := wt_facts hw k
      have hs : sumTo ws xs (k + 1) = addV (sumTo ws xs k) (clampV (ws.getD k 0) * clampV (xs.getD k 0)) := rfl
      have hp := iw64 (clamp_prod_i64 (ws.getD k 0) (xs.getD k 0))
      have hA := hid_ (fun w => add_any w (sumTo_range ws xs k) (clamp_prod_i64 (ws.getD k 0) (xs.getD k 0)))
      have HS := hid_ hs
      clear hs hw
      generalize ws.getD k 0 = x at *
      generalize xs.getD k 0 = y at *
      generalize sumTo ws xs k = s at *
      go_wp2_with fail
      go_quiet ((first | (go_at_call 50; exact Calls.quiet_of_same (quiet_eq (clamp_any _ _))) | (go_at_call 49; exact Calls.quiet_of_same (quiet_eq (hA.out _)))))
      clear hp
      go_wp2_with fail
      go_roundw
      case rel => exact ⟨k + 1, by omega, by go_num, by rw [HS.out], hid_ (drawn_next HWR.out _)⟩
      case measure => simp [intOf]; omega
    · obtain rfl : k = ws.length := by omega
      go_wp2_with fail
      go_ret
      exact ⟨rfl, HWR.out⟩
set_option maxHeartbeats 800000 in
theorem sum64_any {w : World} {B B' : Nat} {v u : Value} {ws xs : List Int} (hx : RdI w B .i64 v ws) (hy : RdI w B' .i64 u xs) (hw : AnyInts ws) (hl : ws.length = xs.length) :
    Calls Try.prog 136 #[v, u] w (fun e w' => e = .returned (.int .i64 (sumV ws xs)) ∧ ∃ n, w' = w.drewN n) := by
  obtain ⟨A, c, rfl, hc, hm, hcx⟩ := hx.form
  obtain ⟨A', c', rfl, hc', hm', hcy⟩ := hy.form
  unfold maxLen at hm hm'
  have Hx := hid_ hx
  have Hy := hid_ hy
  have HW := hid_ hw
  rw [← hl] at hm' hc' ⊢
  have HL := hid_ hl
  unfold sumV
  clear hcx hcy hx hy hl hw
  go_enter Try.func136, Try.ntmps136
  go_wp2_with fail
  go_loopw [5, 10] (fun s i wr => ∃ k : Nat, k ≤ ws.length ∧ i = .int .i64 k ∧ s = .int .i64 (sumTo ws xs k) ∧ Hid (∃ n, wr = w.drewN n)) (fun _ i _ => ws.length - (intOf i).toNat)
  case atStart => exact ⟨0, Nat.zero_le _, rfl, rfl, hid_ ⟨0, rfl⟩⟩
  case round =>
    obtain ⟨k, hk, rfl, rfl, HWR⟩ := hrel
    by_cases hlt : k < ws.length
    · obtain ⟨b, o, rfl, c1⟩ := rdi_cell (rdi_drawn Hx.out HWR.out) hlt
      obtain ⟨b', o', rfl, c2⟩ := rdi_cell (rdi_drawn Hy.out HWR.out) (by rw [← HL.out]; exact hlt)
      have hlt' : (k : Int) < (ws.length : Int) := by omega
      have hw := HW.out
      skip
      have hs : sumTo ws xs (k + 1) = addV (sumTo ws xs k) (clampV (ws.getD k 0) * clampV (xs.getD k 0)) := rfl
      have hp := iw64 (clamp_prod_i64 (ws.getD k 0) (xs.getD k 0))
      have hA := hid_ (fun w => add_any w (sumTo_range ws xs k) (clamp_prod_i64 (ws.getD k 0) (xs.getD k 0)))
      have HS := hid_ hs
      clear hs hw
      generalize ws.getD k 0 = x at *
      generalize xs.getD k 0 = y at *
      generalize sumTo ws xs k = s at *
      go_wp2_with fail
      go_quiet ((first | (go_at_call 50; exact Calls.quiet_of_same (quiet_eq (clamp_any _ _))) | (go_at_call 49; exact Calls.quiet_of_same (quiet_eq (hA.out _)))))
      clear hp
      go_wp2_with fail
      go_roundw
      case rel => exact ⟨k + 1, by omega, by go_num, by rw [HS.out], hid_ (drawn_next HWR.out _)⟩
      case measure => simp [intOf]; omega
    · obtain rfl : k = ws.length := by omega
      go_wp2_with fail
      go_ret
      exact ⟨rfl, HWR.out⟩

/-! ### Dot, Inner -/
def DotPost (w : World) (r : Int) (e : Ending) (w' : World) : Prop := e = .returned (.tuple #[.int .i64 r, .int .i64 0]) ∧ ∃ n, w' = w.drewN n
set_option maxHeartbeats 800000 in
theorem dot_any {w : World} {B B' : Nat} {v u : Value} {ws xs : List Int} (hx : RdI w B .i8 v ws) (hy : RdI w B' .i64 u xs) (hw : Wt ws) (hl : ws.length = xs.length) :
    Calls Try.prog 69 #[v, u] w (DotPost w (dotV ws xs)) := by
  obtain ⟨A, c, rfl, hc, hm, hcx⟩ := hx.form
  obtain ⟨A', c', rfl, hc', hm', hcy⟩ := hy.form
  clear hcx hcy
  unfold maxLen at hm hm'
  have HS := hid_ (sum8_any hx hy hw hl)
  have HH := hid_ (fun w => shift_any w 6 (by omega) (sumTo_range ws xs ws.length))
  have HD : Hid (dotV ws xs = clampV (shiftV (sumTo ws xs ws.length) 6)) := rfl
  unfold sumV at HS
  rw [← hl] at hm' hc' HS ⊢
  generalize dotV ws xs = r at *
  generalize sumTo ws xs ws.length = s at *
  clear hx hy hl hw
  go_enter Try.func69, Try.ntmps69
  go_wp2_with (first
    | ((go_at_call 97); (refine HS.out.mono ?_); (rintro e w1 ⟨rfl, hd⟩); (have HDR := hid_ hd); (clear hd))
    | ((go_at_call 51); (refine (HH.out _).mono ?_); (rintro e w1 ⟨rfl, rfl⟩))
    | ((go_at_call 50); (refine (clamp_any _ _).mono ?_); (rintro e w1 ⟨rfl, rfl⟩)))
  go_ret2
  exact ⟨by rw [HD.out]; rfl, HDR.out⟩
set_option maxHeartbeats 800000 in
theorem inner_any {w : World} {B B' : Nat} {v u : Value} {ws xs : List Int} (hx : RdI w B .i64 v ws) (hy : RdI w B' .i64 u xs) (hw : AnyInts ws) (hl : ws.length = xs.length) :
    Calls Try.prog 126 #[v, u] w (DotPost w (innerV ws xs)) := by
  obtain ⟨A, c, rfl, hc, hm, hcx⟩ := hx.form
  obtain ⟨A', c', rfl, hc', hm', hcy⟩ := hy.form
  clear hcx hcy
  unfold maxLen at hm hm'
  have HS := hid_ (sum64_any hx hy hw hl)
  have HH := hid_ (fun w => shift_any w 16 (by omega) (sumTo_range ws xs ws.length))
  have HD : Hid (innerV ws xs = clampV (shiftV (sumTo ws xs ws.length) 16)) := rfl
  unfold sumV at HS
  rw [← hl] at hm' hc' HS ⊢
  generalize innerV ws xs = r at *
  generalize sumTo ws xs ws.length = s at *
  clear hx hy hl hw
  go_enter Try.func126, Try.ntmps126
  go_wp2_with (first
    | ((go_at_call 136); (refine HS.out.mono ?_); (rintro e w1 ⟨rfl, hd⟩); (have HDR := hid_ hd); (clear hd))
    | ((go_at_call 51); (refine (HH.out _).mono ?_); (rintro e w1 ⟨rfl, rfl⟩))
    | ((go_at_call 50); (refine (clamp_any _ _).mono ?_); (rintro e w1 ⟨rfl, rfl⟩)))
  go_ret2
  exact ⟨by rw [HD.out]; rfl, HDR.out⟩
set_option maxHeartbeats 800000 in
theorem rdot_any {w : World} {B B' : Nat} {v u : Value} {ws xs : List Int} (hx : RdI w B .i8 v ws) (hy : RdI w B' .i64 u xs) (hw : Wt ws) (hl : ws.length = xs.length) :
    Calls Try.prog 59 #[v, u] w (DotPost w (dotV ws xs)) := by
  obtain ⟨A, c, rfl, hc, hm, hcx⟩ := hx.form
  obtain ⟨A', c', rfl, hc', hm', hcy⟩ := hy.form
  unfold maxLen at hm hm'
  have Hx := hid_ hx
  have Hy := hid_ hy
  have HW := hid_ hw
  rw [← hl] at hm' hc' ⊢
  have HL := hid_ hl
  have HH := hid_ (fun w => rshift_any w 6 (by omega) (sumTo_range ws xs ws.length))
  have HD : Hid (dotV ws xs = clampV (shiftV (sumTo ws xs ws.length) 6)) := rfl
  generalize dotV ws xs = r at *
  clear hcx hcy hx hy hl hw
  go_enter Try.func59, Try.ntmps59
  go_wp2_with fail
  go_loopw [6, 7] (fun s i wr => ∃ k : Nat, k ≤ ws.length ∧ i = .int .i64 k ∧ s = .int .i64 (sumTo ws xs k) ∧ Hid (∃ n, wr = w.drewN n)) (fun _ i _ => ws.length - (intOf i).toNat)
  case atStart => exact ⟨0, Nat.zero_le _, rfl, rfl, hid_ ⟨0, rfl⟩⟩
  case round =>
    obtain ⟨k, hk, rfl, rfl, HWR⟩ := hrel
    by_cases hlt : k < ws.length
    · obtain ⟨b, o, rfl, c1⟩ := rdi_cell (rdi_drawn Hx.out HWR.out) hlt
      obtain ⟨b', o', rfl, c2⟩ := rdi_cell (rdi_drawn Hy.out HWR.out) (by rw [← HL.out]; exact hlt)
      have hlt' : (k : Int) < (ws.length : Int) := by omega
      have hw := HW.out
      have h9 := wt_facts hw k
      have hs : sumTo ws xs (k + 1) = addV (sumTo ws xs k) (clampV (ws.getD k 0) * clampV (xs.getD k 0)) := rfl
      have hp := iw64 (clamp_prod_i64 (ws.getD k 0) (xs.getD k 0))
      have hA := fun w => radd_any w (sumTo_range ws xs k) (clamp_prod_i64 (ws.getD k 0) (xs.getD k 0))
      rw [hw.clamp k] at hp hA hs
      have HA := hid_ hA
      have HS := hid_ hs
      clear hs hw hA HH HD
      generalize ws.getD k 0 = x at *
      generalize xs.getD k 0 = y at *
      generalize sumTo ws xs k = s at *
      go_wp2_with fail
      go_quiet ((first | (go_at_call 53; exact Calls.quiet_of_same (quiet_eq (rclamp_any _ _))) | (go_at_call 52; exact Calls.quiet_of_same (quiet_eq (HA.out _)))))
      clear hp
      go_wp2_with fail
      go_roundw
      case rel => exact ⟨k + 1, by omega, by go_num, by rw [HS.out], hid_ (drawn_next HWR.out _)⟩
      case measure => simp [intOf]; omega
    · obtain rfl : k = ws.length := by omega
      generalize sumTo ws xs ws.length = s at *
      go_wp2_with (first
        | ((go_at_call 54); (refine (HH.out _).mono ?_); (rintro e w1 ⟨rfl, rfl⟩))
        | ((go_at_call 53); (refine (rclamp_any _ _).mono ?_); (rintro e w1 ⟨rfl, rfl⟩)))
      go_ret2
      exact ⟨by rw [HD.out]; rfl, HWR.out⟩
end Go.Proofs.Ytlpeijaeiioimaa
