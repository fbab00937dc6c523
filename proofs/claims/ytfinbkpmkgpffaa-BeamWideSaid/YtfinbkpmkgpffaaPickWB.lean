/- slices.Index, pick.Max and the document's Rank walked. Conditions: the slices read as the lists. -/
import Derived.Test.YtfinbkpmkgpffaaPickW
namespace Go.Proofs.Ytfinbkpmkgpffaa
open Go.RowKit

def IdxPost (l : List Int) (i : Int) (w : World) (e : Ending) (w' : World) : Prop :=
  ∃ r, e = .returned (.int .i64 r) ∧ ((r = -1 ∧ ∀ j, j < l.length → l.getD j 0 ≠ i) ∨ ∃ t : Nat, t < l.length ∧ r = t ∧ l.getD t 0 = i) ∧ ∃ n, w' = w.drewN n

set_option maxHeartbeats 800000 in
theorem index_any {w : World} {B : Nat} {v : Value} {l : List Int} (hx : RdI w B .i64 v l) (i : Int) :
    Calls Try.prog 48 #[v, .int .i64 i] w (IdxPost l i w) := by
  obtain ⟨A, c, rfl, hc, hm, hcx⟩ := hx.form
  unfold maxLen at hm
  have Hx := hid_ hcx
  clear hcx hx
  go_enter Try.func48, Try.ntmps48
  go_wp2_with fail
  go_loopw [8] (fun q wr => ∃ k n : Nat, k ≤ l.length ∧ q = .int .i64 k ∧ Hid (∀ j, j < k → l.getD j 0 ≠ i) ∧ wr = w.drewN n) (fun q _ => l.length - (intOf q).toNat)
  case atStart => exact ⟨0, 0, Nat.zero_le _, rfl, hid_ (fun j hj => by omega), rfl⟩
  case round =>
    obtain ⟨k, n, hk, rfl, He, rfl⟩ := hrel
    by_cases hlt : k < l.length
    · obtain ⟨b, o, rfl, _, _, c1⟩ := Hx.out k hlt
      have hlt' : (k : Int) < (l.length : Int) := by omega
      obtain ⟨u, hu⟩ : ∃ u, l.getD k 0 = u := ⟨_, rfl⟩
      rw [hu] at c1
      have HU := hid_ hu
      clear hu
      by_cases hxy : i = u
      · have HE := hid_ hxy
        subst hxy
        go_wp2_with fail
        go_ret
        exact ⟨k, rfl, .inr ⟨k, hlt, rfl, HU.out⟩, _, rfl⟩
      · have hb : (i == u) = false := beq_eq_false_iff_ne.2 hxy
        go_wp2_with fail
        go_roundw
        case rel => exact ⟨k + 1, _, by omega, by go_num, hid_ (fun j hj => by
          rcases Nat.lt_or_ge j k with h1 | h1
          · exact He.out j h1
          · obtain rfl : j = k := by omega
            rw [HU.out]
            exact fun h => hxy h.symm), rfl⟩
        case measure => simp [intOf]; omega
    · go_wp2_with fail
      go_ret
      exact ⟨-1, rfl, .inl ⟨rfl, fun j hj => He.out j (by omega)⟩, _, rfl⟩
/-- r is the place of the greatest number, the first of them -/
def MaxIs (xs : List Int) (k : Nat) (r : Int) : Prop := (k = 0 ∧ r = -1) ∨ ∃ m : Nat, r = m ∧ m < k ∧ (∀ j, j < k → xs.getD j 0 ≤ xs.getD m 0) ∧ (∀ j, j < m → xs.getD j 0 < xs.getD m 0)
def MaxPost (xs : List Int) (w : World) (e : Ending) (w' : World) : Prop := ∃ r, e = .returned (.int .i64 r) ∧ MaxIs xs xs.length r ∧ ∃ n, w' = w.drewN n

set_option maxHeartbeats 800000 in
theorem max_any {w : World} {B : Nat} {v : Value} {xs : List Int} (hx : RdI w B .i64 v xs) :
    Calls Try.prog 20 #[v] w (MaxPost xs w) := by
  obtain ⟨A, c, rfl, hc, hm, hcx⟩ := hx.form
  unfold maxLen at hm
  have Hx := hid_ hcx
  clear hcx hx
  go_enter Try.func20, Try.ntmps20
  go_wp2_with fail
  go_loopw [3, 8] (fun bv q wr => ∃ (r : Int) (k n : Nat), k ≤ xs.length ∧ bv = .int .i64 r ∧ q = .int .i64 k ∧ Hid (MaxIs xs k r) ∧ wr = w.drewN n) (fun _ q _ => xs.length - (intOf q).toNat)
  case atStart => exact ⟨-1, 0, 0, Nat.zero_le _, rfl, rfl, .inl ⟨rfl, rfl⟩, rfl⟩
  case round =>
    obtain ⟨r, k, n, hk, rfl, rfl, HM, rfl⟩ := hrel
    by_cases hlt : k < xs.length
    · obtain ⟨b, o, rfl, _, _, c1⟩ := Hx.out k hlt
      have hlt' : (k : Int) < (xs.length : Int) := by omega
      obtain ⟨u, hu⟩ : ∃ u, xs.getD k 0 = u := ⟨_, rfl⟩
      rw [hu] at c1
      have HU := hid_ hu
      clear hu
      rcases HM.out with ⟨h0, hr⟩ | ⟨m, hr, hmk, h1, h2⟩
      · subst hr
        have H0 := hid_ h0
        clear h0
        go_wp2_with fail
        go_roundw
        case rel =>
          have h0 := H0.out
          subst h0
          refine ⟨_, 1, _, by omega, rfl, by go_num, .inr ⟨0, by simp, by omega, fun j hj => ?_, fun j hj => by omega⟩, rfl⟩
          obtain rfl : j = 0 := by omega
          exact Int.le_refl _
        case measure => simp [intOf]; omega
      · subst hr
        have H1 := hid_ h1
        have H2 := hid_ h2
        clear h1 h2
        obtain ⟨b', o', he, _, _, c2⟩ := Hx.out m (by omega)
        injection he with he
        injection he with he1 he2
        subst he1 he2
        obtain ⟨y, hy⟩ : ∃ y, xs.getD m 0 = y := ⟨_, rfl⟩
        rw [hy] at c2
        have HY := hid_ hy
        have hmz : (m : Int) < (xs.length : Int) := by omega
        have hm0 : ¬ (m : Int) < 0 := by omega
        clear hy
        by_cases hgt : y < u
        · go_wp2_with fail
          go_roundw
          case rel =>
            refine ⟨_, k + 1, _, by omega, rfl, by go_num, .inr ⟨k, rfl, by omega, fun j hj => ?_, fun j hj => ?_⟩, rfl⟩
            · rcases Nat.lt_or_ge j k with h3 | h3
              · have := H1.out j h3
                rw [HY.out] at this
                rw [HU.out]
                omega
              · obtain rfl : j = k := by omega
                exact Int.le_refl _
            · have := H1.out j hj
              rw [HY.out] at this
              rw [HU.out]
              omega
          case measure => simp [intOf]; omega
        · go_wp2_with fail
          go_roundw
          case rel =>
            refine ⟨_, k + 1, _, by omega, rfl, by go_num, .inr ⟨m, rfl, by omega, fun j hj => ?_, H2.out⟩, rfl⟩
            rcases Nat.lt_or_ge j k with h3 | h3
            · exact H1.out j h3
            · obtain rfl : j = k := by omega
              rw [HU.out, HY.out]
              omega
          case measure => simp [intOf]; omega
    · go_wp2_with fail
      go_ret
      obtain rfl : k = xs.length := by omega
      exact ⟨r, rfl, HM.out, _, rfl⟩
/-- the place i is ahead of the place j -/
def ltx (xs : List Int) (i j : Int) : Prop := xs.getD j.toNat 0 < xs.getD i.toNat 0 ∨ (xs.getD i.toNat 0 = xs.getD j.toNat 0 ∧ i < j)
instance (xs : List Int) (i j : Int) : Decidable (ltx xs i j) := by unfold ltx; infer_instance
def rankTo (xs : List Int) (i : Int) (k : Nat) : Nat := (iota k).countP (fun j => decide (ltx xs j i))
def rankV (xs : List Int) (i : Int) : Int := if i < 0 ∨ (xs.length : Int) ≤ i then -1 else rankTo xs i xs.length
theorem rankTo_succ (xs : List Int) (i : Int) (k : Nat) : rankTo xs i (k + 1) = rankTo xs i k + (if ltx xs (k : Int) i then 1 else 0) := by
  unfold rankTo iota
  rw [List.range_succ, List.map_append, List.countP_append]
  simp [List.countP_cons]

set_option maxHeartbeats 1600000 in
theorem rrank_any {w : World} {B : Nat} {v : Value} {xs : List Int} (hx : RdI w B .i64 v xs) (i : Int) :
    Calls Try.prog 26 #[v, .int .i64 i] w (fun e w' => e = .returned (.int .i64 (rankV xs i)) ∧ ∃ n, w' = w.drewN n) := by
  obtain ⟨A, c, rfl, hc, hm, hcx⟩ := hx.form
  unfold maxLen at hm
  have Hx := hid_ hcx
  clear hcx hx
  obtain ⟨res, hres⟩ : ∃ res, rankV xs i = res := ⟨_, rfl⟩
  rw [hres]
  unfold rankV at hres
  by_cases h0 : i < 0
  · rw [if_pos (.inl h0)] at hres
    have HR := hid_ hres
    clear hres
    go_enter Try.func26, Try.ntmps26
    go_wp2_with fail
    go_ret
    exact ⟨by rw [← HR.out]; rfl, 0, rfl⟩
  by_cases hn : (xs.length : Int) ≤ i
  · rw [if_pos (.inr hn)] at hres
    have HR := hid_ hres
    clear hres
    go_enter Try.func26, Try.ntmps26
    go_wp2_with fail
    go_ret
    exact ⟨by rw [← HR.out]; rfl, 0, rfl⟩
  rw [if_neg (by omega)] at hres
  have HR := hid_ hres
  obtain ⟨ii, rfl⟩ : ∃ ii : Nat, i = ii := ⟨i.toNat, by omega⟩
  obtain ⟨b, o, rfl, _, _, c2⟩ := Hx.out ii (by omega)
  obtain ⟨y, hy⟩ : ∃ y, xs.getD ii 0 = y := ⟨_, rfl⟩
  rw [hy] at c2
  have HY := hid_ hy
  have hiz : (ii : Int) < (xs.length : Int) := by omega
  clear hres hy
  go_enter Try.func26, Try.ntmps26
  go_wp2_with fail
  go_loopw [5, 6] (fun nv q wr => ∃ (r k n : Nat), k ≤ xs.length ∧ r ≤ k ∧ nv = .int .i64 r ∧ q = .int .i64 k ∧ Hid (rankTo xs ii k = r) ∧ wr = w.drewN n) (fun _ q _ => xs.length - (intOf q).toNat)
  case atStart => exact ⟨0, 0, 0, Nat.zero_le _, Nat.le_refl _, rfl, rfl, hid_ rfl, rfl⟩
  case round =>
    obtain ⟨r, k, n, hk, hrk, rfl, rfl, HM, rfl⟩ := hrel
    by_cases hlt : k < xs.length
    · obtain ⟨b', o', he, _, _, c1⟩ := Hx.out k hlt
      injection he with he
      injection he with he1 he2
      subst he1 he2
      have hlt' : (k : Int) < (xs.length : Int) := by omega
      obtain ⟨u, hu⟩ : ∃ u, xs.getD k 0 = u := ⟨_, rfl⟩
      rw [hu] at c1
      have HU := hid_ hu
      clear hu
      have hl : ltx xs (k : Int) ii ↔ (y < u ∨ (u = y ∧ (k : Int) < ii)) := by rw [ltx, Int.toNat_natCast, Int.toNat_natCast, HU.out, HY.out]
      have HL := hid_ hl
      clear hl
      by_cases h1 : y < u
      · have g1 : decide (y < u) = true := decide_eq_true h1
        go_wp2_with fail
        go_quiet (fail)
        go_wp2_with fail
        go_roundw
        case rel => exact ⟨r + 1, k + 1, _, by omega, by omega, by go_num, by go_num, hid_ (by rw [rankTo_succ, HM.out, if_pos (HL.out.2 (.inl h1))]), by first | rfl | exact World.drewN_drewN _ _ _⟩
        case measure => simp [intOf]; omega
      · have g1 : decide (y < u) = false := decide_eq_false h1
        by_cases h2 : u = y
        · have g2 : (u == y) = true := beq_iff_eq.2 h2
          by_cases h3 : k < ii
          · have h3' : (k : Int) < (ii : Int) := by omega
            have g3 : decide ((k : Int) < (ii : Int)) = true := decide_eq_true h3'
            go_wp2_with fail
            go_quiet (fail)
            go_wp2_with fail
            go_roundw
            case rel => exact ⟨r + 1, k + 1, _, by omega, by omega, by go_num, by go_num, hid_ (by rw [rankTo_succ, HM.out, if_pos (HL.out.2 (.inr ⟨h2, h3'⟩))]), by first | rfl | exact World.drewN_drewN _ _ _⟩
            case measure => simp [intOf]; omega
          · have h3' : ¬ (k : Int) < (ii : Int) := by omega
            have g3 : decide ((k : Int) < (ii : Int)) = false := decide_eq_false h3'
            go_wp2_with fail
            go_quiet (fail)
            go_wp2_with fail
            go_roundw
            case rel => exact ⟨r, k + 1, _, by omega, by omega, rfl, by go_num, hid_ (by rw [rankTo_succ, HM.out, if_neg (fun h => by have := HL.out.1 h; omega), Nat.add_zero]), by first | rfl | exact World.drewN_drewN _ _ _⟩
            case measure => simp [intOf]; omega
        · have g2 : (u == y) = false := beq_eq_false_iff_ne.2 h2
          go_wp2_with fail
          go_quiet (fail)
          go_wp2_with fail
          go_roundw
          case rel => exact ⟨r, k + 1, _, by omega, by omega, rfl, by go_num, hid_ (by rw [rankTo_succ, HM.out, if_neg (fun h => by have := HL.out.1 h; omega), Nat.add_zero]), by first | rfl | exact World.drewN_drewN _ _ _⟩
          case measure => simp [intOf]; omega
    · go_wp2_with fail
      go_ret
      obtain rfl : k = xs.length := by omega
      exact ⟨by rw [← HR.out, HM.out]; rfl, _, rfl⟩
end Go.Proofs.Ytfinbkpmkgpffaa
