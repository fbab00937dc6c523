/- The best of any beams with a token more: the program's and the document's side by side; copies of beams; how great a case is. Conditions: the beams and rows are read in slices, and are not many. -/
import Derived.Test.YtfinbkpmkgpffaaRGrowWB
namespace Go.Proofs.Ytfinbkpmkgpffaa
open Go.RowKit

theorem grow_any {w : World} {v u : Value} {X : List Bx} {R : List (List Int)} (hx : RdBms w v X) (hr : RdRows w u R) (hsz : X.length + (R.map List.length).sum < 200) (hR : R.length < 1000000000000000) (htk : ∀ x ∈ X, x.b.tokens.length < 200) (width length stop : Int) :
    Calls Try.prog 31 #[v, u, .int .i64 width, .int .i64 length, .int .i64 stop] w (GrowPost w (growE (bms X) R width) (growB (bms X) R width length stop) (growF (bms X) R width length stop)) := by
  by_cases hE : growE (bms X) R width = 0
  · have h := grow_run hx hr hsz htk width length stop hE
    rw [hE]
    exact h
  · refine (grow_no hx hr (by omega) hR width length stop hE).mono fun e w' ⟨h1, h2⟩ => ?_
    exact ⟨_, _, [], h1, ⟨none, 0, rfl, Nat.le_refl _, Nat.zero_le _, fun i x h => by cases h⟩, by unfold growB; rw [if_neg hE]; rfl, by unfold growF; rw [if_neg hE]; exact rdi_nil _ _ _ _ _, h2⟩
/-- a case, as it lies in an argument -/
structure CaseB where
  lv : Value
  X : List Bx
  sv : Value
  R : List (List Int)
  width : Int
  length : Int
  stop : Int
  penalty : Int
def CaseB.vals (k : CaseB) : List Value := [k.lv, k.sv, .int .i64 k.width, .int .i64 k.length, .int .i64 k.stop, .int .i64 k.penalty]
def CaseB.total (k : CaseB) : Nat := k.X.length + ((bms k.X).map (fun b => b.tokens.length)).sum + (k.R.map List.length).sum
structure CaseB.Ok (w : World) (k : CaseB) : Prop where
  l : RdBms w k.lv k.X
  s : RdRows w k.sv k.R
  nx : k.X.length ≤ 140737488351232
  nr : k.R.length ≤ 140737488351232
  tk : ∀ x ∈ k.X, x.b.tokens.length ≤ 140737488351232
  rl : ∀ r ∈ k.R, r.length ≤ 140737488351232
def sumTo (l : List Nat) (k : Nat) : Nat := (l.take k).sum
theorem sumTo_succ {l : List Nat} {k x : Nat} (h : l[k]? = some x) : sumTo l (k + 1) = sumTo l k + x := by
  unfold sumTo
  rw [take_snoc_bm l h, List.sum_append]
  simp
theorem sumTo_le (l : List Nat) (k : Nat) : sumTo l k ≤ l.sum := sum_take_le l k
theorem sumTo_all (l : List Nat) : sumTo l l.length = l.sum := by unfold sumTo; rw [List.take_length]
def GreatPost (t : Nat) (e : Ending) : Prop := ∃ b : Bool, e = .returned (.bool b) ∧ (b = false → t < 200)
set_option maxHeartbeats 1600000 in
theorem great_any {w : World} {k : CaseB} (hk : k.Ok w) :
    Calls Try.prog 29 #[.agg k.vals.toArray] w (fun e w' => GreatPost k.total e ∧ Below w.heap.size w w') := by
  obtain ⟨hl, hs, hnx, hnr, htk, hrl⟩ := hk
  obtain ⟨lv, X, sv, R, width, length, stop, penalty⟩ := k
  simp only [CaseB.vals] at *
  obtain ⟨A, c, rfl, hXc, _⟩ := rdbms_form hl
  obtain ⟨A2, c2, rfl, hRc, _, _⟩ := id hs
  have hb : Below w.heap.size w (w.alloc (.cells #[.slice A X.length c, .slice A2 R.length c2, .int .i64 width, .int .i64 length, .int .i64 stop, .int .i64 penalty] 43)) := below_alloc _ _
  have HL := hid_ (rdbms_below hl hb)
  have HS := hid_ (rdrows_below hs hb)
  have HB := hid_ hb
  have HTK := hid_ htk
  have HRL := hid_ hrl
  have d0 := (Blk.new w 43 #[.slice A X.length c, .slice A2 R.length c2, .int .i64 width, .int .i64 length, .int .i64 stop, .int .i64 penalty]).cell 0
  have d1 := (Blk.new w 43 #[.slice A X.length c, .slice A2 R.length c2, .int .i64 width, .int .i64 length, .int .i64 stop, .int .i64 penalty]).cell 1
  simp only [List.getElem?_toArray, List.getElem?_cons_succ, List.getElem?_cons_zero] at d0 d1
  clear hl hs htk hrl hb
  go_enter Try.func29, Try.ntmps29
  go_wp2_with fail
  generalize (w.alloc (.cells #[.slice A X.length c, .slice A2 R.length c2, .int .i64 width, .int .i64 length, .int .i64 stop, .int .i64 penalty] 43)) = w1 at *
  go_loop [3, 4] (fun nv iv => ∃ i N : Nat, i ≤ X.length ∧ iv = .int .i64 i ∧ nv = .int .i64 N ∧ N ≤ 281474976710656 ∧ Hid (N = X.length + sumTo ((bms X).map (fun b => b.tokens.length)) i)) (fun _ iv => X.length - (intOf iv).toNat)
  case atStart => exact ⟨0, X.length, Nat.zero_le _, rfl, rfl, by omega, hid_ rfl⟩
  case round =>
    obtain ⟨i, N, hi, rfl, rfl, hN, HN⟩ := hrel
    by_cases hlt : i < X.length ∧ N < 200
    · obtain ⟨hlt, hN2⟩ := hlt
      have hlt' : (i : Int) < (X.length : Int) := by omega
      have hN2' : (N : Int) < 200 := by omega
      obtain ⟨x, hx1, hx2, _⟩ := bx_get hlt
      have hat := rdbms_at HL.out hx1
      obtain ⟨b, o, rfl, _, c0, _, _⟩ := hat.ex
      obtain ⟨TA, tc, htx, _, _, _⟩ := RdI.form hat.tok
      rw [htx] at c0
      have htl := HTK.out x (List.mem_of_getElem? hx1)
      have HST : Hid (N + x.b.tokens.length = X.length + sumTo ((bms X).map (fun b => b.tokens.length)) (i + 1)) := by
        rw [sumTo_succ (x := x.b.tokens.length) (by rw [List.getElem?_map, hx2]; rfl), HN.out]
        show _ = _
        omega
      generalize x.b.tokens.length = tl at *
      clear hat htx hx1 hx2
      go_wp2_with fail
      go_round
      case rel => exact ⟨i + 1, N + tl, by omega, by go_num, by go_num, by omega, HST⟩
      case measure => simp [intOf]; omega
    · have hex : i = X.length ∨ (i < X.length ∧ 200 ≤ N) := by omega
      have HEX : Hid (N < 200 → N = X.length + ((bms X).map (fun b => b.tokens.length)).sum) := fun h => by
        rcases hex with h1 | h1
        · rw [HN.out, h1]
          have h2 := sumTo_all ((bms X).map (fun b => b.tokens.length))
          rw [List.length_map, bms_length] at h2
          rw [h2]
        · omega
      clear hlt
      have hcut : ∀ {Q : Prop}, Q → Q := fun h => h
      rcases hex with rfl | ⟨h1, h2⟩
      all_goals
        (try have h1' : (i : Int) < (X.length : Int) := by omega)
        (try have h2' : ¬ (N : Int) < 200 := by omega)
        clear hcut
        go_wp2_with fail
        go_loop [3, 5] (fun nv jv => ∃ j M : Nat, j ≤ R.length ∧ jv = .int .i64 j ∧ nv = .int .i64 M ∧ M ≤ 562949953421312 ∧ N ≤ M ∧ Hid (M = N + sumTo (R.map List.length) j)) (fun _ jv => R.length - (intOf jv).toNat)
        case atStart => exact ⟨0, N, Nat.zero_le _, rfl, rfl, by omega, Nat.le_refl _, hid_ rfl⟩
        case round =>
          obtain ⟨j, M, hj, rfl, rfl, hM, hNM, HM⟩ := hrel
          by_cases hjt : j < R.length ∧ M < 200
          · obtain ⟨hjt, hM2⟩ := hjt
            have hN3 : N < 200 := by omega
            try (exfalso; omega)
            all_goals
              have hjt' : (j : Int) < (R.length : Int) := by omega
              have hM2' : (M : Int) < 200 := by omega
              obtain ⟨b, o, A', c', rfl, _, e0, _⟩ := rdrows_at HS.out hjt
              have hrj : R[j]? = some (R.getD j []) := by rw [List.getD_eq_getElem?_getD, List.getElem?_eq_getElem hjt]; rfl
              have hrl := HRL.out _ (List.mem_of_getElem? hrj)
              have HST : Hid (M + (R.getD j []).length = N + sumTo (R.map List.length) (j + 1)) := by
                rw [sumTo_succ (x := (R.getD j []).length) (by rw [List.getElem?_map, hrj]; rfl), HM.out]
                show _ = _
                omega
              generalize (R.getD j []).length = rl at *
              clear hrj
              go_wp2_with fail
              go_round
              case rel => exact ⟨j + 1, M + rl, by omega, by go_num, by go_num, by omega, by omega, HST⟩
              case measure => simp [intOf]; omega
          · have hej : j = R.length ∨ (j < R.length ∧ 200 ≤ M) := by omega
            have HT : Hid (M < 200 → X.length + ((bms X).map (fun b => b.tokens.length)).sum + (R.map List.length).sum < 200) := fun h => by
              have h1 := HEX.out (by omega)
              rcases hej with h3 | h3
              · have h4 := sumTo_all (R.map List.length)
                rw [List.length_map, ← h3, ← Nat.add_right_inj (n := N), ← HM.out] at h4
                omega
              · omega
            clear hjt
            rcases hej with rfl | ⟨h3, h4⟩
            · by_cases h5 : M < 200
              · try (exfalso; omega)
                all_goals
                  have h5' : ¬ (200 : Int) ≤ (M : Int) := by omega
                  have h5'' : (M : Int) < 200 := by omega
                  go_wp2_with fail
                  go_ret
                  exact ⟨⟨false, rfl, fun _ => HT.out h5⟩, HB.out⟩
              · have h5' : (200 : Int) ≤ (M : Int) := by omega
                have h5'' : ¬ (M : Int) < 200 := by omega
                go_wp2_with fail
                go_ret
                exact ⟨⟨true, rfl, fun h => by cases h⟩, HB.out⟩
            · have h3' : (j : Int) < (R.length : Int) := by omega
              have h5' : (200 : Int) ≤ (M : Int) := by omega
              have h5'' : ¬ (M : Int) < 200 := by omega
              go_wp2_with fail
              go_ret
              exact ⟨⟨true, rfl, fun h => by cases h⟩, HB.out⟩
end Go.Proofs.Ytfinbkpmkgpffaa
