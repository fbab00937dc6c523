/- How great a case is: exactly. Conditions: as great_any's. -/
import Derived.Test.YtfinbkpmkgpffaaBeamBoth
namespace Go.Proofs.Ytfinbkpmkgpffaa
open Go.RowKit

set_option maxHeartbeats 1600000 in
theorem greatx_any {w : World} {k : CaseB} (hk : k.Ok w) :
    Calls Try.prog 29 #[.agg k.vals.toArray] w (fun e w' => e = .returned (.bool (decide (200 ≤ k.total))) ∧ Below w.heap.size w w') := by
  obtain ⟨hl, hs, hnx, hnr, htk, hrl⟩ := hk
  obtain ⟨lv, X, sv, R, width, length, stop, penalty⟩ := k
  simp only [CaseB.vals] at *
  obtain ⟨A, c, rfl, hXc, _⟩ := rdbms_form hl
  obtain ⟨A2, c2, rfl, hRc, _, _⟩ := id hs
  have hb : Below w.heap.size w (w.alloc (.cells #[.slice A X.length c, .slice A2 R.length c2, .int .i64 width, .int .i64 length, .int .i64 stop, .int .i64 penalty] 43)) := below_alloc _ _
  have HL := hid_ (rdbms_below hl hb)
  have HS := hid_ (rdrows_below hs hb)
  have HB := hid_ hb
  have HTK := hid_ htk
  have HRL := hid_ hrl
  have d0 := (Blk.new w 43 #[.slice A X.length c, .slice A2 R.length c2, .int .i64 width, .int .i64 length, .int .i64 stop, .int .i64 penalty]).cell 0
  have d1 := (Blk.new w 43 #[.slice A X.length c, .slice A2 R.length c2, .int .i64 width, .int .i64 length, .int .i64 stop, .int .i64 penalty]).cell 1
  simp only [List.getElem?_toArray, List.getElem?_cons_succ, List.getElem?_cons_zero] at d0 d1
  clear hl hs htk hrl hb
  go_enter Try.func29, Try.ntmps29
  go_wp2_with fail
  generalize (w.alloc (.cells #[.slice A X.length c, .slice A2 R.length c2, .int .i64 width, .int .i64 length, .int .i64 stop, .int .i64 penalty] 43)) = w1 at *
  go_loop [3, 4] (fun nv iv => ∃ i N : Nat, i ≤ X.length ∧ iv = .int .i64 i ∧ nv = .int .i64 N ∧ N ≤ 281474976710656 ∧ Hid (N = X.length + sumTo ((bms X).map (fun b => b.tokens.length)) i)) (fun _ iv => X.length - (intOf iv).toNat)
  case atStart => exact ⟨0, X.length, Nat.zero_le _, rfl, rfl, by omega, hid_ rfl⟩
  case round =>
    obtain ⟨i, N, hi, rfl, rfl, hN, HN⟩ := hrel
    by_cases hlt : i < X.length ∧ N < 200
    · obtain ⟨hlt, hN2⟩ := hlt
      have hlt' : (i : Int) < (X.length : Int) := by omega
      have hN2' : (N : Int) < 200 := by omega
      obtain ⟨x, hx1, hx2, _⟩ := bx_get hlt
      have hat := rdbms_at HL.out hx1
      obtain ⟨b, o, rfl, _, c0, _, _⟩ := hat.ex
      obtain ⟨TA, tc, htx, _, _, _⟩ := RdI.form hat.tok
      rw [htx] at c0
      have htl := HTK.out x (List.mem_of_getElem? hx1)
      have HST : Hid (N + x.b.tokens.length = X.length + sumTo ((bms X).map (fun b => b.tokens.length)) (i + 1)) := by
        rw [sumTo_succ (x := x.b.tokens.length) (by rw [List.getElem?_map, hx2]; rfl), HN.out]
        show _ = _
        omega
      generalize x.b.tokens.length = tl at *
      clear hat htx hx1 hx2
      go_wp2_with fail
      go_round
      case rel => exact ⟨i + 1, N + tl, by omega, by go_num, by go_num, by omega, HST⟩
      case measure => simp [intOf]; omega
    · have hex : i = X.length ∨ (i < X.length ∧ 200 ≤ N) := by omega
      have HEX : Hid (N < 200 → N = X.length + ((bms X).map (fun b => b.tokens.length)).sum) := fun h => by
        rcases hex with h1 | h1
        · rw [HN.out, h1]
          have h2 := sumTo_all ((bms X).map (fun b => b.tokens.length))
          rw [List.length_map, bms_length] at h2
          rw [h2]
        · omega
      have HNL : Hid (N ≤ X.length + ((bms X).map (fun b => b.tokens.length)).sum) := by
        have h2 := HN.out
        have h4 := sumTo_le ((bms X).map (fun b => b.tokens.length)) i
        show _ ≤ _
        omega
      clear hlt
      have hcut : ∀ {Q : Prop}, Q → Q := fun h => h
      rcases hex with rfl | ⟨h1, h2⟩
      all_goals
        (try have h1' : (i : Int) < (X.length : Int) := by omega)
        (try have h2' : ¬ (N : Int) < 200 := by omega)
        clear hcut
        go_wp2_with fail
        go_loop [3, 5] (fun nv jv => ∃ j M : Nat, j ≤ R.length ∧ jv = .int .i64 j ∧ nv = .int .i64 M ∧ M ≤ 562949953421312 ∧ N ≤ M ∧ Hid (M = N + sumTo (R.map List.length) j)) (fun _ jv => R.length - (intOf jv).toNat)
        case atStart => exact ⟨0, N, Nat.zero_le _, rfl, rfl, by omega, Nat.le_refl _, hid_ rfl⟩
        case round =>
          obtain ⟨j, M, hj, rfl, rfl, hM, hNM, HM⟩ := hrel
          by_cases hjt : j < R.length ∧ M < 200
          · obtain ⟨hjt, hM2⟩ := hjt
            have hN3 : N < 200 := by omega
            try (exfalso; omega)
            all_goals
              have hjt' : (j : Int) < (R.length : Int) := by omega
              have hM2' : (M : Int) < 200 := by omega
              obtain ⟨b, o, A', c', rfl, _, e0, _⟩ := rdrows_at HS.out hjt
              have hrj : R[j]? = some (R.getD j []) := by rw [List.getD_eq_getElem?_getD, List.getElem?_eq_getElem hjt]; rfl
              have hrl := HRL.out _ (List.mem_of_getElem? hrj)
              have HST : Hid (M + (R.getD j []).length = N + sumTo (R.map List.length) (j + 1)) := by
                rw [sumTo_succ (x := (R.getD j []).length) (by rw [List.getElem?_map, hrj]; rfl), HM.out]
                show _ = _
                omega
              generalize (R.getD j []).length = rl at *
              clear hrj
              go_wp2_with fail
              go_round
              case rel => exact ⟨j + 1, M + rl, by omega, by go_num, by go_num, by omega, by omega, HST⟩
              case measure => simp [intOf]; omega
          · have hej : j = R.length ∨ (j < R.length ∧ 200 ≤ M) := by omega
            have HT : Hid (M < 200 → X.length + ((bms X).map (fun b => b.tokens.length)).sum + (R.map List.length).sum < 200) := fun h => by
              have h1 := HEX.out (by omega)
              rcases hej with h3 | h3
              · have h4 := sumTo_all (R.map List.length)
                rw [List.length_map, ← h3, ← Nat.add_right_inj (n := N), ← HM.out] at h4
                omega
              · omega
            have HGE : Hid (M ≤ X.length + ((bms X).map (fun b => b.tokens.length)).sum + (R.map List.length).sum) := by
              have h1 := HM.out
              have h2 := HNL.out
              have h3 := sumTo_le (R.map List.length) j
              show _ ≤ _
              omega
            clear hjt
            rcases hej with rfl | ⟨h3, h4⟩
            · by_cases h5 : M < 200
              · try (exfalso; omega)
                all_goals
                  have h5' : ¬ (200 : Int) ≤ (M : Int) := by omega
                  have h5'' : (M : Int) < 200 := by omega
                  go_wp2_with fail
                  go_ret
                  exact ⟨congrArg (fun b => Ending.returned (.bool b)) (decide_eq_false (Nat.not_le.2 (HT.out h5))).symm, HB.out⟩
              · have h5' : (200 : Int) ≤ (M : Int) := by omega
                have h5'' : ¬ (M : Int) < 200 := by omega
                go_wp2_with fail
                go_ret
                exact ⟨congrArg (fun b => Ending.returned (.bool b)) (decide_eq_true (Nat.le_trans (by omega) HGE.out)).symm, HB.out⟩
            · have h3' : (j : Int) < (R.length : Int) := by omega
              have h5' : (200 : Int) ≤ (M : Int) := by omega
              have h5'' : ¬ (M : Int) < 200 := by omega
              go_wp2_with fail
              go_ret
              exact ⟨congrArg (fun b => Ending.returned (.bool b)) (decide_eq_true (Nat.le_trans (by omega) HGE.out)).symm, HB.out⟩
end Go.Proofs.Ytfinbkpmkgpffaa
