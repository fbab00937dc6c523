/- The program's beams, walked: what fits, the greatest of a row, a final score, the best; and the document's. Conditions: the beams and rows are read in slices. -/
import Derived.Test.YtfinbkpmkgpffaaBeamMem
import Derived.Test.YtfinbkpmkgpffaaPickMax
import Derived.Test.YtfinbkpmkgpffaaNumW
namespace Go.Proofs.Ytfinbkpmkgpffaa
open Go.RowKit

theorem fit1_any (w : World) (A : Option Addr) (n c : Nat) : Calls Try.prog 68 #[.slice A n c] w (fun e w' => e = .returned (.bool (decide (n = 0))) ∧ w = w') := by
  by_cases h : n = 0
  · subst h
    go_enter Try.func68, Try.ntmps68
    go_wp2_with fail
    go_ret
    exact ⟨rfl, rfl⟩
  · have h1 : ((n : Int) == 0) = false := beq_eq_false_iff_ne.2 (by omega)
    rw [decide_eq_false h]
    go_enter Try.func68, Try.ntmps68
    go_wp2_with fail
    go_ret
    exact ⟨rfl, rfl⟩
def allFull (R : List (List Int)) : Bool := R.all (fun r => decide (0 < r.length))
theorem allFull_at {R : List (List Int)} {k : Nat} (h : allFull R = true) (hk : k < R.length) : 0 < (R.getD k []).length := by
  unfold allFull at h
  rw [List.all_eq_true] at h
  rw [List.getD_eq_getElem?_getD, List.getElem?_eq_getElem hk]
  exact of_decide_eq_true (h _ (List.getElem_mem hk))
theorem allFull_of {R : List (List Int)} (h : ∀ k, k < R.length → 0 < (R.getD k []).length) : allFull R = true := by
  unfold allFull
  rw [List.all_eq_true]
  intro r hr
  obtain ⟨k, hk, rfl⟩ := List.mem_iff_getElem.1 hr
  have := h k hk
  rw [List.getD_eq_getElem?_getD, List.getElem?_eq_getElem hk] at this
  exact decide_eq_true this
def IdxQ (w : World) (full : Bool) (e : Ending) (w' : World) : Prop := ∃ r : Int, e = .returned (.int .i64 r) ∧ w = w' ∧ -1 ≤ r ∧ r < 4611686018427387904 ∧ (full = false → 0 ≤ r) ∧ (full = true → r = -1)
set_option maxHeartbeats 800000 in
theorem idx_any {w : World} {v : Value} {R : List (List Int)} (hv : RdRows w v R) (hn : R.length < 4611686018427387904) :
    Calls Try.prog 78 #[v, .func (.func 68) #[] #[]] w (IdxQ w (allFull R)) := by
  obtain ⟨A, c, rfl, _, _, _⟩ := id hv
  have HV := hid_ hv
  clear hv
  go_enter Try.func78, Try.ntmps78
  go_wp2_with fail
  go_loop [8] (fun iv => ∃ k : Nat, k ≤ R.length ∧ iv = .int .i64 k ∧ Hid (∀ j, j < k → 0 < (R.getD j []).length)) (fun iv => R.length - (intOf iv).toNat)
  case atStart => exact ⟨0, Nat.zero_le _, rfl, hid_ (fun j hj => absurd hj (by omega))⟩
  case round =>
    obtain ⟨k, hk, rfl, HF⟩ := hrel
    by_cases hlt : k < R.length
    · have hlt' : (k : Int) < (R.length : Int) := by omega
      obtain ⟨b, o, A', c', rfl, _, c1, _⟩ := rdrows_at HV.out hlt
      have HC := hid_ (fit1_any w A' (R.getD k []).length c')
      by_cases hz : (R.getD k []).length = 0
      · rw [decide_eq_true hz] at HC
        have HA : Hid (allFull R = false) := by
          rcases hb : allFull R with _ | _
          · exact rfl
          · have := allFull_at hb hlt
            omega
        generalize (R.getD k []).length = m at *
        clear hz
        go_wp2_with ((go_at_call 68); (refine HC.out.mono ?_); (rintro e w1 ⟨rfl, rfl⟩))
        go_ret
        exact ⟨k, rfl, rfl, by omega, by omega, fun _ => by omega, fun h => by rw [HA.out] at h; cases h⟩
      · rw [decide_eq_false hz] at HC
        have HF2 : Hid (∀ j, j < k + 1 → 0 < (R.getD j []).length) := fun j hj => by
          rcases Nat.lt_or_ge j k with h1 | h1
          · exact HF.out j h1
          · obtain rfl : j = k := by omega
            omega
        generalize (R.getD k []).length = m at *
        clear hz
        go_wp2_with ((go_at_call 68); (refine HC.out.mono ?_); (rintro e w1 ⟨rfl, rfl⟩))
        go_round
        case rel => exact ⟨k + 1, by omega, by go_num, HF2⟩
        case measure => simp [intOf]; omega
    · obtain rfl : k = R.length := by omega
      have HA : Hid (allFull R = true) := allFull_of HF.out
      go_wp2_with fail
      go_ret
      exact ⟨-1, rfl, rfl, by omega, by omega, (fun h => by rw [HA.out] at h; cases h), fun _ => rfl⟩
theorem contains_any {w : World} {v : Value} {R : List (List Int)} (hv : RdRows w v R) (hn : R.length < 4611686018427387904) :
    Calls Try.prog 67 #[v, .func (.func 68) #[] #[]] w (fun e w' => e = .returned (.bool (!allFull R)) ∧ w = w') := by
  have HI := hid_ (idx_any hv hn)
  clear hv
  generalize allFull R = full at *
  cases full with
  | true =>
    go_enter Try.func67, Try.ntmps67
    go_wp2_with ((go_at_call 78); (refine HI.out.mono ?_); (rintro e w1 ⟨r, rfl, rfl, _, _, _, h2⟩); (obtain rfl := h2 rfl))
    go_ret
    exact ⟨rfl, rfl⟩
  | false =>
    go_enter Try.func67, Try.ntmps67
    go_wp2_with ((go_at_call 78); (refine HI.out.mono ?_); (rintro e w1 ⟨r, rfl, rfl, _, _, h1, _⟩); (have h3 := h1 rfl); (have h4 : ¬ r < 0 := by omega))
    go_ret
    exact ⟨rfl, rfl⟩
set_option maxHeartbeats 1600000 in
theorem fit_any {w : World} {v u : Value} {X : List Bx} {R : List (List Int)} (hx : RdBms w v X) (hr : RdRows w u R) (hn : X.length < 1000000000000000) (hm : R.length < 1000000000000000) :
    Calls Try.prog 49 #[v, u] w (fun e w' => e = .returned (.bool (fitV (bms X) R)) ∧ Below w.heap.size w w') := by
  obtain ⟨A, c, rfl, _, _⟩ := rdbms_form hx
  obtain ⟨A2, c2, rfl, _, _, _⟩ := id hr
  have HX := hid_ hx
  have HR := hid_ hr
  have HF : Hid (fitV (bms X) R = (decide (0 < X.length) && decide (liveTo (bms X) X.length = R.length) && allFull R)) := by
    unfold fitV
    rw [bms_length]
    exact hid_ rfl
  clear hx hr
  go_enter Try.func49, Try.ntmps49
  go_wp2_with fail
  go_loopw [5, 10] (fun lv iv wr => ∃ k : Nat, k ≤ X.length ∧ iv = .int .i64 k ∧ lv = .int .i64 ((liveTo (bms X) k : Nat) : Int) ∧ Hid (Below w.heap.size w wr)) (fun _ iv _ => X.length - (intOf iv).toNat)
  case atStart => exact ⟨0, Nat.zero_le _, rfl, rfl, hid_ (Below.refl _ _)⟩
  case round =>
    obtain ⟨k, hk, rfl, rfl, HB⟩ := hrel
    have hlk := liveTo_le (bms X) k
    by_cases hlt : k < X.length
    · have hlt' : (k : Int) < (X.length : Int) := by omega
      obtain ⟨x, hx1, hx2, _⟩ := bx_get hlt
      obtain ⟨b, o, rfl, hb, c0, c1, c2⟩ := (rdbms_at (rdbms_below HX.out HB.out) hx1).ex
      have hs := liveTo_succ hx2
      obtain ⟨tx, ⟨tk, sc, dn⟩⟩ := x
      simp only at c0 c1 c2 hs
      obtain ⟨TA, tc, htx, _⟩ := RdI.form (rdbms_at (rdbms_below HX.out HB.out) hx1).tok
      obtain rfl : tx = .slice TA tk.length tc := htx
      have HB2 : Hid (Below w.heap.size w (wr.alloc (.cells #[.slice TA tk.length tc, .int .i64 sc, .bool dn] 55))) := HB.out.trans (((Upd.refl (fun _ => False) wr).alloc _).toBelow HB.out.size (fun _ h => h.elim))
      generalize liveTo (bms X) k = lk at *
      cases dn with
      | true =>
        have HS : Hid (liveTo (bms X) (k + 1) = lk) := hs
        clear hs hx2
        go_wp2_with fail
        go_roundw
        case rel => exact ⟨k + 1, by omega, by go_num, by rw [HS.out], HB2⟩
        case measure => simp [intOf]; omega
      | false =>
        have HS : Hid (liveTo (bms X) (k + 1) = lk + 1) := hs
        clear hs hx2
        go_wp2_with fail
        go_roundw
        case rel => exact ⟨k + 1, by omega, by go_num, by rw [HS.out]; go_num, HB2⟩
        case measure => simp [intOf]; omega
    · obtain rfl : k = X.length := by omega
      have HC := hid_ (contains_any (rdrows_below HR.out HB.out) (by omega))
      have HBa := HB
      generalize liveTo (bms X) X.length = lk at *
      generalize allFull R = full at *
      by_cases h0 : 0 < X.length
      · rw [decide_eq_true h0] at HF
        have h0' : (0 : Int) < (X.length : Int) := by omega
        by_cases h1 : lk = R.length
        · rw [decide_eq_true h1] at HF
          have b1 : ((lk : Int) == (R.length : Int)) = true := by rw [beq_iff_eq]; omega
          clear h1
          cases full with
          | true =>
            go_wp2_with ((go_at_call 67); (refine HC.out.mono ?_); (rintro e w1 ⟨rfl, rfl⟩))
            go_ret
            exact ⟨by rw [HF.out]; rfl, HB.out⟩
          | false =>
            go_wp2_with ((go_at_call 67); (refine HC.out.mono ?_); (rintro e w1 ⟨rfl, rfl⟩))
            go_ret
            exact ⟨by rw [HF.out]; rfl, HB.out⟩
        · rw [decide_eq_false h1] at HF
          have b1 : ((lk : Int) == (R.length : Int)) = false := beq_eq_false_iff_ne.2 (by omega)
          clear h1
          go_wp2_with fail
          go_ret
          exact ⟨by rw [HF.out]; rfl, HB.out⟩
      · rw [decide_eq_false h0] at HF
        have h0' : ¬ (0 : Int) < (X.length : Int) := by omega
        go_wp2_with fail
        go_ret
        exact ⟨by rw [HF.out]; rfl, HB.out⟩
theorem rowAt_len {R : List Int} {k : Nat} (h : k < R.length) : R.getD k 0 = R[k] := by rw [List.getD_eq_getElem?_getD, List.getElem?_eq_getElem h]; rfl
set_option maxHeartbeats 800000 in
theorem maxS_any {w : World} {B : Nat} {v : Value} {row : List Int} (hx : RdI w B .i64 v row) (h0 : 0 < row.length) :
    Calls Try.prog 51 #[v] w (fun e w' => e = .returned (.int .i64 (maxTo row (row.length - 1))) ∧ w = w') := by
  obtain ⟨A, c, rfl, _, hm, hcell⟩ := hx.form
  unfold maxLen at hm
  have HC := hid_ hcell
  obtain ⟨b0, o0, rfl, _, _, c0⟩ := hcell 0 h0
  clear hcell hx
  have h1 : ¬ (row.length : Int) < 1 := by omega
  have h2 : (0 : Int) < (row.length : Int) := by omega
  have HM0 : Hid (maxTo row 0 = row.getD 0 0) := hid_ rfl
  generalize hr0 : row.getD 0 0 = r0 at *
  rw [Nat.add_zero] at c0
  clear hr0
  go_enter Try.func51, Try.ntmps51
  go_wp2_with fail
  go_loop [3, 4] (fun mv iv => ∃ k : Nat, 1 ≤ k ∧ k ≤ row.length ∧ iv = .int .i64 k ∧ mv = .int .i64 (maxTo row (k - 1))) (fun _ iv => row.length - (intOf iv).toNat)
  case atStart => exact ⟨1, Nat.le_refl _, by omega, rfl, by rw [show 1 - 1 = 0 from rfl, HM0.out]⟩
  case round =>
    obtain ⟨k, hk1, hk, rfl, rfl⟩ := hrel
    by_cases hlt : k < row.length
    · have hlt' : (k : Int) < (row.length : Int) := by omega
      obtain ⟨b1, o1, h5, _, _, c1⟩ := HC.out k hlt
      injection h5 with h5
      injection h5 with h5 h6 _
      subst h5 h6
      have hn : maxTo row k = max (maxTo row (k - 1)) (row.getD k 0) := by
        obtain ⟨j, rfl⟩ : ∃ j, k = j + 1 := ⟨k - 1, by omega⟩
        rfl
      generalize row.getD k 0 = x at *
      generalize maxTo row (k - 1) = m at *
      by_cases hmx : m < x
      · have HN : Hid (maxTo row k = x) := by rw [hn]; show _ = _; omega
        have hmx2 : m ≤ x := by omega
        clear hn
        go_wp2_with fail
        go_round
        case rel => exact ⟨k + 1, by omega, by omega, by go_num, by rw [show k + 1 - 1 = k by omega, HN.out]⟩
        case measure => simp [intOf]; omega
      · have HN : Hid (maxTo row k = m) := by rw [hn]; show _ = _; omega
        have hmx2 : x ≤ m := by omega
        clear hn
        go_wp2_with fail
        go_round
        case rel => exact ⟨k + 1, by omega, by omega, by go_num, by rw [show k + 1 - 1 = k by omega, HN.out]⟩
        case measure => simp [intOf]; omega
    · obtain rfl : k = row.length := by omega
      go_wp2_with fail
      go_ret
      exact ⟨rfl, rfl⟩
end Go.Proofs.Ytfinbkpmkgpffaa
