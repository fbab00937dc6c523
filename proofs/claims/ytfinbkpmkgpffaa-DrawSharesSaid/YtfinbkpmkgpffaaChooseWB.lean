/- The choosing of a token walked, the document's. Conditions: the slice reads as the scores, which are no more than 2^20. -/
import Derived.Test.YtfinbkpmkgpffaaChooseW
namespace Go.Proofs.Ytfinbkpmkgpffaa
open Go.RowKit

set_option maxRecDepth 100000 in
set_option maxHeartbeats 1600000 in
theorem rchoose_no {w : World} {B : Nat} {A : Option Addr} {n c : Nat} {xs : List Int} {k heat u : Int} (hx : RdI w B .i64 (.slice A n c) xs) (h : heat < 1 ∨ k < 2) (hn : n ≤ 1048576) :
    Calls Try.prog 41 #[.slice A n c, .int .i64 k, .int .i64 heat, .int .u64 u] w (DrawnInt w (chooseV xs k heat u)) := by
  have hl := (rdi_len hx).1
  rw [chooseV_no u (by rcases h with h | h; exact .inl h; exact .inr (.inl h))]
  have HM := hid_ (rmax_any hx (by omega))
  clear hx hl
  by_cases h1 : heat < 1
  · go_enter Try.func41, Try.ntmps41
    go_wp2_with ((go_at_call 21); (refine HM.out.mono ?_); (rintro e w1 ⟨rfl, hb⟩); (have HB := hid_ hb); (clear hb))
    go_ret
    exact ⟨rfl, HB.out⟩
  · have h2 : k < 2 := by omega
    go_enter Try.func41, Try.ntmps41
    go_wp2_with ((go_at_call 21); (refine HM.out.mono ?_); (rintro e w1 ⟨rfl, hb⟩); (have HB := hid_ hb); (clear hb))
    go_ret
    exact ⟨rfl, HB.out⟩

set_option maxRecDepth 100000 in
set_option maxHeartbeats 3200000 in
theorem rchoose_run {w : World} {B : Nat} {A : Option Addr} {n c : Nat} {xs : List Int} {k heat u : Int} (hx : RdI w B .i64 (.slice A n c) xs) (hh : 1 ≤ heat) (hk : 2 ≤ k) (hu : 0 ≤ u) (hu2 : u ≤ 18446744073709551615) (hn : n ≤ 1048576) :
    Calls Try.prog 41 #[.slice A n c, .int .i64 k, .int .i64 heat, .int .u64 u] w (DrawnInt w (chooseV xs k heat u)) := by
  obtain ⟨i0, hi0, hz0, hz1, hz2⟩ := info_parts Try.infoI64s
  obtain ⟨hl, hc, hm0⟩ := rdi_len hx
  clear hm0
  obtain ⟨m, hm⟩ : ∃ m, clamp k xs.length = m := ⟨_, rfl⟩
  have hmn : m ≤ n := by rw [← hm, hl]; unfold clamp; omega
  have HT := hid_ (rshapeTop hx (by omega) k hm)
  have HX := hid_ hx
  have HL := hid_ hl
  have HCV : Hid (chooseV xs k heat u = if allV xs k heat = 0 then maxV xs else (findV (chosenV xs k) (sharesV xs k heat) (u % allV xs k heat)).getD (-1)) := by show _ = _; rw [chooseV, if_neg (by omega)]
  have HHL : Hid ((heatsV xs k heat).length = m) := by show _ = _; rw [heatsV_length, hm]
  have HAT : Hid (∀ i, i < m → 0 ≤ (chosenV xs k).getD i 0 ∧ (chosenV xs k).getD i 0 < (n : Int) ∧ (heatsV xs k heat).getD i 0 = divV (xs.getD ((chosenV xs k).getD i 0).toNat 0) heat) := fun i hi => by
    have h1 := chosenV_at (xs := xs) (k := k) (i := i) (by rw [hm]; exact hi)
    rw [hl] at h1
    exact ⟨h1.1, h1.2, heatsV_at (by rw [hm]; exact hi)⟩
  have HCL : Hid ((chosenV xs k).length = m) := by show _ = _; rw [chosenV_length, hm]
  have HSH : Hid (sharesV xs k heat = softV (heatsV xs k heat)) := rfl
  have HAL : Hid (allV xs k heat = accTo (sharesV xs k heat) (sharesV xs k heat).length) := rfl
  clear hx hl hm
  go_enter Try.func41, Try.ntmps41
  go_wp2_with ((go_at_call 24); (refine HT.out.mono ?_); (rintro e w2 ⟨Ac, cc, rfl, hr, hb⟩); (have HB2 := hid_ hb); (have HR := hid_ hr); (clear hb hr))
  clear HT
  go_loopg [10, 11] m (fun g ov iv wr => ∃ (i c2 : Nat) (A2 : Option Addr), i ≤ m ∧ m ≤ g + i ∧ iv = .int .i64 i ∧ ov = .slice A2 i c2 ∧ Hid (wr.ownsRow w2.heap.size 2 1 (.slice A2 i c2) i (((heatsV xs k heat).take i).map (Value.int .i64))) ∧ Hid (Upd (fun _ => False) w2 wr))
  case atStart => exact ⟨0, 0, none, Nat.zero_le _, by omega, rfl, rfl, hid_ (World.ownsRow_nil _ _ _ _), hid_ (Upd.refl _ _)⟩
  case round =>
    obtain ⟨i, c2, A2, him, hg, rfl, rfl, HO, HU⟩ := hrel
    by_cases hlt : i < m
    · have hlt' : (i : Int) < (m : Int) := by omega
      obtain ⟨b, o, rfl, d1⟩ := rdi_cell (rdi_below HR.out HU.out.toB) (j := i) (by rw [HCL.out]; exact hlt)
      obtain ⟨h1, h2, h3⟩ := HAT.out i hlt
      have htk := take_snoc_ (heatsV xs k heat) (k := i) (by rw [HHL.out]; exact hlt)
      obtain ⟨q, hq⟩ : ∃ q : Nat, (chosenV xs k).getD i 0 = q := ⟨((chosenV xs k).getD i 0).toNat, by omega⟩
      rw [hq] at d1 h1 h2 h3
      rw [Int.toNat_natCast] at h3
      obtain ⟨b', o', rfl, d2⟩ := rdi_cell (rdi_below HX.out (below_comp HB2.out HU.out.toB)) (j := q) (by rw [HL.out]; omega)
      have hD := hid_ (rdiv_any wr (xs.getD q 0) heat)
      rw [← h3] at hD
      have HTK := hid_ htk
      clear hq h3 htk
      generalize xs.getD q 0 = y at *
      generalize (heatsV xs k heat).getD i 0 = r9 at *
      generalize (heatsV xs k heat).take i = pre at *
      have hfin : ∀ (v' : Value) (w5 : World), w5.ownsRow w2.heap.size 2 1 v' (i + 1) (pre.map (Value.int .i64) ++ [.int .i64 r9]) → (wr.alloc (.cells #[.int .i64 r9] 2)).grownBy w5 (Value.slice A2 i c2).ownBlock →
          ∃ A5 c5, v' = .slice A5 (i + 1) c5 ∧ w5.ownsRow w2.heap.size 2 1 (.slice A5 (i + 1) c5) (i + 1) (((heatsV xs k heat).take (i + 1)).map (Value.int .i64)) ∧ Upd (fun _ => False) w2 w5 := by
        intro v' w5 h5 hg5
        obtain ⟨A5, c5, rfl⟩ := own_slice_ h5
        refine ⟨A5, c5, rfl, ?_, app_upd1 HO.out HU.out (Nat.le_refl _) hg5⟩
        rw [HTK.out, List.map_append]
        exact h5
      have HF := hid_ hfin
      have hsz := HU.out.size
      clear hfin
      go_wp2_with (first
        | ((go_at_call 57); (refine hD.out.mono ?_); (rintro e w1 ⟨rfl, rfl⟩))
        | (at_builtin; refine wpList_append_own _ rfl (.tmp 34) (.tmp 44) 29 rfl w2.heap.size 2 i0 (.int .i64 0) 1 8 Try.underlying29 hi0 hz0 hz1 hz2 rfl (by decide) _ i _ rfl (HO.out.alloc _) ⟨wr.heap.size, 0, none⟩ 1 1 [.int .i64 r9] rfl rfl (one_new rfl) (one_cell rfl) ?c3 ?c4 ?c5 ?_))
      case c3 => unfold maxLen; omega
      case c4 => omega
      case c5 => simp; omega
      intro v' w5 h5 hg5 _
      obtain ⟨A5, c5, rfl, hO5, hU5⟩ := HF.out v' w5 h5 hg5
      have HO5 := hid_ hO5
      have HU5 := hid_ hU5
      clear h5 hg5 hO5 hU5 HF
      go_wp2_with fail
      go_roundg (m - (i + 1))
      case measure => omega
      case rel => exact ⟨i + 1, c5, A5, by omega, by omega, by go_num, rfl, HO5, HU5⟩
    · obtain rfl : i = m := by omega
      clear hlt
      have hO := HO.out
      rw [List.take_of_length_le (by rw [HHL.out]; exact Nat.le_refl _)] at hO
      have hS := rsoft_any (v := .slice A2 i c2) (w := wr) (B := wr.heap.size) (xs := heatsV xs k heat) (Rd.of_own hO) (by rw [HHL.out]; omega)
      rw [← HSH.out] at hS
      have hsl : (sharesV xs k heat).length = i := by rw [HSH.out, softV_length, HHL.out]
      have hsr : ∀ p ∈ sharesV xs k heat, 0 ≤ p ∧ p ≤ 2147483647 := by rw [HSH.out]; exact softV_range _
      have HS := hid_ hS
      have HSL := hid_ hsl
      have HSR := hid_ hsr
      have HRc := hid_ (rdi_below HR.out HU.out.toB)
      have HXc := hid_ (rdi_below HX.out (below_comp HB2.out HU.out.toB))
      clear hO hS hsl hsr HO HHL HAT HSH HR HX
      generalize sharesV xs k heat = p at *
      generalize chosenV xs k = l at *
      go_wp2_with ((go_at_call 59); (refine HS.out.mono ?_); (rintro e w3 ⟨As, cs, rfl, hO, hb⟩); (rw [HSL.out] at hO ⊢); (have HP := hid_ (show RdI w3 w3.heap.size .i64 (.slice As i cs) p from Rd.of_own hO)); (have HRl := hid_ (rdi_below HRc.out hb)); (have HMX := hid_ (rmax_any (rdi_below HXc.out hb) (by have := HL.out; omega))); (have HB3 := hid_ (below_comp (below_comp HB2.out HU.out.toB) hb)); (clear hO hb))
      clear HRc HU HS HXc
      go_loop [13, 14] (fun a i' => ∃ q : Nat, q ≤ i ∧ i' = .int .i64 q ∧ a = .int .u64 (accTo p q)) (fun _ i' => i - (intOf i').toNat)
      case atStart => exact ⟨0, Nat.zero_le _, rfl, rfl⟩
      case round =>
        obtain ⟨q, hq, rfl, rfl⟩ := hrel
        by_cases hlt : q < i
        · have hlt' : (q : Int) < (i : Int) := by omega
          obtain ⟨b, o, rfl, d1⟩ := rdi_cell HP.out (j := q) (by rw [HSL.out]; exact hlt)
          have h1 := accTo_bound HSR.out (by decide) q
          have h2 := getD_mem_range HSR.out (by decide) q
          have HQ : Hid (accTo p (q + 1) = accTo p q + p.getD q 0) := rfl
          generalize p.getD q 0 = y at *
          generalize accTo p q = ac at *
          go_wp2_with fail
          go_round
          case rel => exact ⟨q + 1, by omega, by go_num, by rw [HQ.out]⟩
          case measure => simp [intOf]; omega
        · obtain rfl : q = i := by omega
          clear hlt
          have hal : allV xs k heat = accTo p q := by rw [HAL.out, HSL.out]
          have hab := accTo_bound HSR.out (by decide) q
          have hsum := accTo_drop p 0 (Nat.zero_le _)
          rw [HSL.out, accTo, List.drop_zero, Int.zero_add] at hsum
          have hcv := HCV.out
          rw [hal] at hcv
          have HSUM := hid_ hsum
          generalize accTo p q = all at *
          clear hsum hal HAL HCV
          by_cases hz : all = 0
          · rw [if_pos hz] at hcv
            subst hz
            have HCV := hid_ hcv
            clear hcv
            go_wp2_with ((go_at_call 21); (refine HMX.out.mono ?_); (rintro e w4 ⟨rfl, hb⟩); (have HB4 := hid_ (below_comp HB3.out hb)); (clear hb))
            go_ret
            exact ⟨by rw [HCV.out]; rfl, HB4.out⟩
          · rw [if_neg hz] at hcv
            have hzb : (all == 0) = false := beq_eq_false_iff_ne.2 hz
            have hap : 0 < all := by omega
            have hr0 := Int.emod_nonneg u (b := all) (by omega)
            have hr1 := Int.emod_lt_of_pos u (b := all) hap
            have HCV := hid_ hcv
            clear hcv
            go_wp2_with fail
            have hstart : u % all < p.sum := by rw [← HSUM.out]; exact hr1
            have HST := hid_ hstart
            obtain ⟨r0, hr9⟩ : ∃ r0, u % all = r0 := ⟨_, rfl⟩
            rw [hr9] at hr0 hr1 HST HCV ⊢
            clear hr9 hstart
            go_loop [15, 16] (fun lf i => ∃ (j : Nat) (r : Int), j ≤ q ∧ i = .int .i64 j ∧ lf = .int .u64 r ∧ 0 ≤ r ∧ r ≤ r0 ∧ Hid (r < (p.drop j).sum) ∧ Hid (findV l p r0 = findV (l.drop j) (p.drop j) r)) (fun _ i => q - (intOf i).toNat)
            case atStart => exact ⟨0, r0, Nat.zero_le _, rfl, rfl, hr0, Int.le_refl _, by rw [List.drop_zero]; exact HST, hid_ (by rw [List.drop_zero, List.drop_zero])⟩
            case round =>
              obtain ⟨j, r, hj, rfl, rfl, hra, hrb, HRS, HF⟩ := hrel
              by_cases hlt : j < q
              · have hlt' : (j : Int) < (q : Int) := by omega
                obtain ⟨b, o, rfl, d1⟩ := rdi_cell HP.out (j := j) (by rw [HSL.out]; exact hlt)
                obtain ⟨b', o', rfl, d2⟩ := rdi_cell HRl.out (j := j) (by rw [HCL.out]; exact hlt)
                have h2 := getD_mem_range HSR.out (by decide) j
                have e1 : p.drop j = p.getD j 0 :: p.drop (j + 1) := by
                  rw [List.drop_eq_getElem_cons (by rw [HSL.out]; exact hlt), List.getD_eq_getElem?_getD, List.getElem?_eq_getElem (by rw [HSL.out]; exact hlt)]
                  rfl
                have e2 : l.drop j = l.getD j 0 :: l.drop (j + 1) := by
                  rw [List.drop_eq_getElem_cons (by rw [HCL.out]; exact hlt), List.getD_eq_getElem?_getD, List.getElem?_eq_getElem (by rw [HCL.out]; exact hlt)]
                  rfl
                have hrs := HRS.out
                have hf := HF.out
                rw [e1, e2, findV] at hf
                rw [e1, List.sum_cons] at hrs
                have HRS2 := hid_ hrs
                have HF2 := hid_ hf
                clear e1 e2 hrs hf HRS HF
                generalize p.getD j 0 = y at *
                generalize l.getD j 0 = z at *
                by_cases hry : r < y
                · have hf := HF2.out
                  rw [if_pos hry] at hf
                  have hcv := HCV.out
                  rw [hf] at hcv
                  have HC2 := hid_ hcv
                  clear hf hcv
                  go_wp2_with fail
                  go_ret
                  exact ⟨by rw [HC2.out]; rfl, HB3.out⟩
                · have hf := HF2.out
                  rw [if_neg hry] at hf
                  have HF3 := hid_ hf
                  clear hf
                  go_wp2_with fail
                  go_round
                  case rel => exact ⟨j + 1, r - y, by omega, by go_num, by first | rfl | go_num, by omega, by omega, hid_ (by have := HRS2.out; omega), HF3⟩
                  case measure => simp [intOf]; omega
              · exfalso
                have h9 := HRS.out
                rw [List.drop_eq_nil_of_le (by rw [HSL.out]; omega)] at h9
                simp at h9
                omega

theorem rchoose_any {w : World} {B : Nat} {A : Option Addr} {n c : Nat} {xs : List Int} {k heat u : Int} (hx : RdI w B .i64 (.slice A n c) xs) (hu : 0 ≤ u) (hu2 : u ≤ 18446744073709551615) (hn : n ≤ 1048576) :
    Calls Try.prog 41 #[.slice A n c, .int .i64 k, .int .i64 heat, .int .u64 u] w (DrawnInt w (chooseV xs k heat u)) := by
  by_cases h : heat < 1 ∨ k < 2
  · exact rchoose_no hx h hn
  · exact rchoose_run hx (by omega) (by omega) hu hu2 hn
end Go.Proofs.Ytfinbkpmkgpffaa
