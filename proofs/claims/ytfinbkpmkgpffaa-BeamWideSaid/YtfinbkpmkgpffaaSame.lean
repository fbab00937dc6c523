/- The document's 'Same' on two lists of numbers, walked: it tells whether the lists are the same. Conditions: the slices read as the lists. -/
import Derived.Test.YtfinbkpmkgpffaaBase
namespace Go.Proofs.Ytfinbkpmkgpffaa
open Go.RowKit

theorem list_eq_of_getD {xs ys : List Int} (hl : xs.length = ys.length) (h : ∀ j, j < xs.length → xs.getD j 0 = ys.getD j 0) : xs = ys := by
  refine List.ext_getElem hl fun i h1 h2 => ?_
  have := h i h1
  rw [List.getD_eq_getElem?_getD, List.getD_eq_getElem?_getD, List.getElem?_eq_getElem h1, List.getElem?_eq_getElem h2] at this
  exact this

def SamePost (xs ys : List Int) (w : World) (e : Ending) (w' : World) : Prop := e = .returned (.bool (decide (xs = ys))) ∧ ∃ n, w' = w.drewN n

set_option maxHeartbeats 800000 in
theorem same07_any {w : World} {B B' : Nat} {v u : Value} {xs ys : List Int} (hx : RdI w B .i64 v xs) (hy : RdI w B' .i64 u ys) :
    Calls Try.prog 22 #[v, u] w (SamePost xs ys w) := by
  obtain ⟨A, c, rfl, hc, hm, hcx⟩ := hx.form
  obtain ⟨A', c', rfl, hc', hm', hcy⟩ := hy.form
  unfold maxLen at hm hm'
  have Hx := hid_ hcx
  have Hy := hid_ hcy
  clear hcx hcy hx hy
  by_cases hl : xs.length = ys.length
  · have Hl := hid_ hl
    rw [← hl] at hm' hc' ⊢
    clear hl
    go_enter Try.func22, Try.ntmps22
    go_wp2_with fail
    go_loopw [5] (fun i wr => ∃ k n : Nat, k ≤ xs.length ∧ i = .int .i64 k ∧ (∀ j, j < k → xs.getD j 0 = ys.getD j 0) ∧ wr = w.drewN n) (fun i _ => xs.length - (intOf i).toNat)
    case atStart => exact ⟨0, 0, Nat.zero_le _, rfl, fun j hj => by omega, rfl⟩
    case round =>
      obtain ⟨k, n, hk, rfl, he, rfl⟩ := hrel
      have He := hid_ he
      clear he
      by_cases hlt : k < xs.length
      · obtain ⟨b, o, rfl, _, _, c1⟩ := Hx.out k hlt
        obtain ⟨b', o', rfl, _, _, c2⟩ := Hy.out k (by rw [← Hl.out]; exact hlt)
        have hlt' : (k : Int) < (xs.length : Int) := by omega
        by_cases hxy : xs.getD k 0 = ys.getD k 0
        · have Hxy := hid_ hxy
          rw [← hxy] at c2
          clear hxy
          generalize hX : xs.getD k 0 = x at *
          have HX := hid_ hX
          clear hX
          go_wp2_with fail
          go_quiet (fail)
          go_wp2_with fail
          go_roundw
          case rel => exact ⟨k + 1, _, by omega, by go_num, fun j hj => by
            rcases Nat.lt_or_ge j k with h1 | h1
            · exact He.out j h1
            · obtain rfl : j = k := by omega
              exact HX.out.trans Hxy.out, (by first | rfl | exact World.drewN_drewN _ _ _)⟩
          case measure => simp [intOf]; omega
        · have Hxy := hid_ hxy
          have hb : (xs.getD k 0 != ys.getD k 0) = true := by rw [bne_iff_ne]; exact hxy
          clear hxy
          have hb0 : (xs.getD k 0 == ys.getD k 0) = false := by simpa using hb
          generalize hX : xs.getD k 0 = x at *
          generalize hY : ys.getD k 0 = y at *
          have HX := hid_ hX
          have HY := hid_ hY
          clear hX hY
          go_wp2_with fail
          go_quiet (fail)
          go_wp2_with fail
          go_ret
          refine ⟨?_, _, (by first | rfl | exact World.drewN_drewN _ _ _)⟩
          have : ¬ xs = ys := fun e => Hxy.out (by rw [← HX.out, ← HY.out, e])
          rw [decide_eq_false this]
          rfl
      · have hke : k = xs.length := by omega
        go_wp2_with fail
        go_ret
        refine ⟨?_, n, rfl⟩
        have : xs = ys := list_eq_of_getD Hl.out (fun j hj => He.out j (by omega))
        rw [decide_eq_true this]
        rfl
  · have hne : ¬ xs = ys := fun e => hl (by rw [e])
    have Hne := hid_ hne
    have hb : ((xs.length : Int) != (ys.length : Int)) = true := by rw [bne_iff_ne]; omega
    clear hne
    go_enter Try.func22, Try.ntmps22
    go_wp2_with fail
    go_ret
    exact ⟨by rw [decide_eq_false Hne.out]; rfl, 0, rfl⟩
set_option maxHeartbeats 800000 in
theorem same04_any {w : World} {B B' : Nat} {v u : Value} {xs ys : List Int} (hx : RdI w B .i64 v xs) (hy : RdI w B' .i64 u ys) :
    Calls Try.prog 27 #[v, u] w (SamePost xs ys w) := by
  obtain ⟨A, c, rfl, hc, hm, hcx⟩ := hx.form
  obtain ⟨A', c', rfl, hc', hm', hcy⟩ := hy.form
  unfold maxLen at hm hm'
  have Hx := hid_ hcx
  have Hy := hid_ hcy
  clear hcx hcy hx hy
  by_cases hl : xs.length = ys.length
  · have Hl := hid_ hl
    rw [← hl] at hm' hc' ⊢
    clear hl
    go_enter Try.func27, Try.ntmps27
    go_wp2_with fail
    go_loopw [5] (fun i wr => ∃ k n : Nat, k ≤ xs.length ∧ i = .int .i64 k ∧ (∀ j, j < k → xs.getD j 0 = ys.getD j 0) ∧ wr = w.drewN n) (fun i _ => xs.length - (intOf i).toNat)
    case atStart => exact ⟨0, 0, Nat.zero_le _, rfl, fun j hj => by omega, rfl⟩
    case round =>
      obtain ⟨k, n, hk, rfl, he, rfl⟩ := hrel
      have He := hid_ he
      clear he
      by_cases hlt : k < xs.length
      · obtain ⟨b, o, rfl, _, _, c1⟩ := Hx.out k hlt
        obtain ⟨b', o', rfl, _, _, c2⟩ := Hy.out k (by rw [← Hl.out]; exact hlt)
        have hlt' : (k : Int) < (xs.length : Int) := by omega
        by_cases hxy : xs.getD k 0 = ys.getD k 0
        · have Hxy := hid_ hxy
          rw [← hxy] at c2
          clear hxy
          generalize hX : xs.getD k 0 = x at *
          have HX := hid_ hX
          clear hX
          go_wp2_with fail
          go_quiet (fail)
          go_wp2_with fail
          go_roundw
          case rel => exact ⟨k + 1, _, by omega, by go_num, fun j hj => by
            rcases Nat.lt_or_ge j k with h1 | h1
            · exact He.out j h1
            · obtain rfl : j = k := by omega
              exact HX.out.trans Hxy.out, (by first | rfl | exact World.drewN_drewN _ _ _)⟩
          case measure => simp [intOf]; omega
        · have Hxy := hid_ hxy
          have hb : (xs.getD k 0 != ys.getD k 0) = true := by rw [bne_iff_ne]; exact hxy
          clear hxy
          have hb0 : (xs.getD k 0 == ys.getD k 0) = false := by simpa using hb
          generalize hX : xs.getD k 0 = x at *
          generalize hY : ys.getD k 0 = y at *
          have HX := hid_ hX
          have HY := hid_ hY
          clear hX hY
          go_wp2_with fail
          go_quiet (fail)
          go_wp2_with fail
          go_ret
          refine ⟨?_, _, (by first | rfl | exact World.drewN_drewN _ _ _)⟩
          have : ¬ xs = ys := fun e => Hxy.out (by rw [← HX.out, ← HY.out, e])
          rw [decide_eq_false this]
          rfl
      · have hke : k = xs.length := by omega
        go_wp2_with fail
        go_ret
        refine ⟨?_, n, rfl⟩
        have : xs = ys := list_eq_of_getD Hl.out (fun j hj => He.out j (by omega))
        rw [decide_eq_true this]
        rfl
  · have hne : ¬ xs = ys := fun e => hl (by rw [e])
    have Hne := hid_ hne
    have hb : ((xs.length : Int) != (ys.length : Int)) = true := by rw [bne_iff_ne]; omega
    clear hne
    go_enter Try.func27, Try.ntmps27
    go_wp2_with fail
    go_ret
    exact ⟨by rw [decide_eq_false Hne.out]; rfl, 0, rfl⟩
end Go.Proofs.Ytfinbkpmkgpffaa
