/- The choosing of a token walked, the program's. Conditions: the slice reads as the scores, which are no more than 2^20. -/
import Derived.Test.YtfinbkpmkgpffaaSoftW
import Derived.Test.YtfinbkpmkgpffaaTopW
namespace Go.Proofs.Ytfinbkpmkgpffaa
open Go.RowKit

/-- the first whose share goes beyond what is left -/
def findV : List Int → List Int → Int → Option Int
  | l :: ls, p :: ps, r => if r < p then some l else findV ls ps (r - p)
  | _, _, _ => none
def heatsV (xs : List Int) (k heat : Int) : List Int := (chosenV xs k).map (fun i => divV (xs.getD i.toNat 0) heat)
def sharesV (xs : List Int) (k heat : Int) : List Int := softV (heatsV xs k heat)
def allV (xs : List Int) (k heat : Int) : Int := accTo (sharesV xs k heat) (sharesV xs k heat).length
def chooseV (xs : List Int) (k heat u : Int) : Int :=
  if heat < 1 ∨ k < 2 then maxV xs
  else if allV xs k heat = 0 then maxV xs
  else (findV (chosenV xs k) (sharesV xs k heat) (u % allV xs k heat)).getD (-1)

theorem heatsV_length (xs : List Int) (k heat : Int) : (heatsV xs k heat).length = clamp k xs.length := by rw [heatsV, List.length_map, chosenV_length]
theorem sharesV_length (xs : List Int) (k heat : Int) : (sharesV xs k heat).length = clamp k xs.length := by rw [sharesV, softV_length, heatsV_length]
theorem heatsV_at {xs : List Int} {k heat : Int} {i : Nat} (hi : i < clamp k xs.length) : (heatsV xs k heat).getD i 0 = divV (xs.getD ((chosenV xs k).getD i 0).toNat 0) heat := by
  have hl := chosenV_length xs k
  rw [heatsV, List.getD_eq_getElem?_getD, List.getElem?_map, List.getElem?_eq_getElem (by rw [hl]; exact hi), List.getD_eq_getElem?_getD (l := chosenV xs k), List.getElem?_eq_getElem (by rw [hl]; exact hi)]
  rfl
theorem divV_nonneg {a b : Int} (ha : 0 ≤ a) (hb : 0 ≤ b) : 0 ≤ divV a b := by
  unfold divV
  have h1 : 0 ≤ clampV a := by unfold clampV; omega
  have h2 : 0 ≤ clampV b := by unfold clampV; omega
  split
  · split
    · decide
    · split <;> omega
  · have : 0 ≤ (clampV a * 65536).tdiv (clampV b) := Int.tdiv_nonneg (by omega) h2
    unfold clampV at this ⊢
    omega
theorem softV_range (xs : List Int) : ∀ p ∈ softV xs, 0 ≤ p ∧ p ≤ 2147483647 := by
  intro p hp
  unfold softV at hp
  obtain ⟨e, he, rfl⟩ := List.mem_map.1 hp
  have h1 : 0 ≤ e := by
    unfold expL at he
    obtain ⟨x, _, rfl⟩ := List.mem_map.1 he
    exact (expV_range _).1
  exact ⟨divV_nonneg h1 (accTo_range xs _).1, (divV_range _ _).2⟩
theorem getD_mem_range {l : List Int} {M : Int} (h : ∀ p ∈ l, 0 ≤ p ∧ p ≤ M) (hM : 0 ≤ M) (i : Nat) : 0 ≤ l.getD i 0 ∧ l.getD i 0 ≤ M := by
  rw [List.getD_eq_getElem?_getD]
  rcases Nat.lt_or_ge i l.length with h1 | h1
  · rw [List.getElem?_eq_getElem h1]
    exact h _ (List.getElem_mem h1)
  · rw [List.getElem?_eq_none h1]
    exact ⟨by decide, hM⟩
theorem accTo_bound {l : List Int} {M : Int} (h : ∀ p ∈ l, 0 ≤ p ∧ p ≤ M) (hM : 0 ≤ M) : ∀ k : Nat, 0 ≤ accTo l k ∧ accTo l k ≤ M * (k : Int)
  | 0 => by simp [accTo]
  | k + 1 => by
    have h1 := accTo_bound h hM k
    have h2 := getD_mem_range h hM k
    have h3 : M * ((k + 1 : Nat) : Int) = M * (k : Int) + M := by rw [Int.natCast_add, Int.mul_add]; simp
    rw [accTo, h3]
    omega
/-- the sum from a place on -/
theorem accTo_drop (l : List Int) : ∀ k, k ≤ l.length → accTo l l.length = accTo l k + (l.drop k).sum := by
  intro k hk
  obtain ⟨d, hd⟩ : ∃ d, l.length = k + d := ⟨l.length - k, by omega⟩
  induction d generalizing k with
  | zero => rw [hd, Nat.add_zero, List.drop_eq_nil_of_le (by omega)]; simp
  | succ d ih =>
    rw [ih (k + 1) (by omega) (by omega), accTo, List.drop_eq_getElem_cons (by omega : k < l.length), List.sum_cons, List.getD_eq_getElem?_getD, List.getElem?_eq_getElem (by omega)]
    simp only [Option.getD_some]
    omega
theorem findV_some : ∀ (l p : List Int) (r : Int), l.length = p.length → 0 ≤ r → r < p.sum → ∃ x, findV l p r = some x
  | [], [], r, _, h0, h => by simp at h; omega
  | l :: ls, p :: ps, r, hl, h0, h => by
    unfold findV
    by_cases h1 : r < p
    · exact ⟨l, by rw [if_pos h1]⟩
    · rw [if_neg h1]
      rw [List.sum_cons] at h
      exact findV_some ls ps (r - p) (by simpa using hl) (by omega) (by omega)
  | [], _ :: _, _, hl, _, _ => by simp at hl
  | _ :: _, [], _, hl, _, _ => by simp at hl
theorem maxV_nonneg {xs : List Int} (h : 0 < xs.length) : 0 ≤ maxV xs ∧ maxV xs < (xs.length : Int) := by
  rw [maxV, if_neg (by omega)]
  exact order_at h
theorem chooseV_no {xs : List Int} {k heat : Int} (u : Int) (h : heat < 1 ∨ k < 2 ∨ xs.length = 0) : chooseV xs k heat u = maxV xs := by
  unfold chooseV
  by_cases h1 : heat < 1 ∨ k < 2
  · rw [if_pos h1]
  · rw [if_neg h1]
    have h2 : (sharesV xs k heat).length = 0 := by
      rw [sharesV_length]
      unfold clamp
      omega
    rw [if_pos]
    rw [allV, h2]
    rfl
def DrawnInt (w : World) (r : Int) (e : Ending) (w' : World) : Prop := e = .returned (.int .i64 r) ∧ Below w.heap.size w w'
set_option maxRecDepth 100000 in
set_option maxHeartbeats 1600000 in
theorem choose_no {w : World} {B : Nat} {A : Option Addr} {n c : Nat} {xs : List Int} {k heat u : Int} (hx : RdI w B .i64 (.slice A n c) xs) (h : heat < 1 ∨ k < 2 ∨ n = 0) :
    Calls Try.prog 40 #[.slice A n c, .int .i64 k, .int .i64 heat, .int .u64 u] w (DrawnInt w (chooseV xs k heat u)) := by
  have hl := (rdi_len hx).1
  rw [chooseV_no u (by rw [hl]; exact h)]
  have HM := hid_ (maxP_any hx)
  have hneg : n = 0 → maxV xs = -1 := fun h0 => by rw [maxV, if_pos (by omega)]
  have HN := hid_ hneg
  clear hx hl hneg
  by_cases h1 : heat < 1
  · go_enter Try.func40, Try.ntmps40
    go_wp2_with ((go_at_call 20); (refine HM.out.mono ?_); (rintro e w1 ⟨rfl, hb⟩); (have HB := hid_ hb); (clear hb))
    go_ret
    exact ⟨rfl, HB.out⟩
  · by_cases h2 : k < 2
    · go_enter Try.func40, Try.ntmps40
      go_wp2_with ((go_at_call 20); (refine HM.out.mono ?_); (rintro e w1 ⟨rfl, hb⟩); (have HB := hid_ hb); (clear hb))
      go_ret
      exact ⟨rfl, HB.out⟩
    · have h3 : n = 0 := by omega
      have hm := HN.out h3
      rw [hm] at HM ⊢
      subst h3
      clear h
      go_enter Try.func40, Try.ntmps40
      go_wp2_with ((go_at_call 20); (refine HM.out.mono ?_); (rintro e w1 ⟨rfl, hb⟩); (have HB := hid_ hb); (clear hb))
      go_ret
      exact ⟨rfl, HB.out⟩

set_option maxRecDepth 100000 in
set_option maxHeartbeats 3200000 in
theorem choose_run {w : World} {B : Nat} {A : Option Addr} {n c : Nat} {xs : List Int} {k heat u : Int} (hx : RdI w B .i64 (.slice A n c) xs) (hh : 1 ≤ heat) (hk : 2 ≤ k) (h0 : 0 < n) (hu : 0 ≤ u) (hu2 : u ≤ 18446744073709551615) (hn : n ≤ 1048576) :
    Calls Try.prog 40 #[.slice A n c, .int .i64 k, .int .i64 heat, .int .u64 u] w (DrawnInt w (chooseV xs k heat u)) := by
  obtain ⟨hl, hc, hm0⟩ := rdi_len hx
  clear hm0
  obtain ⟨m, hm⟩ : ∃ m, clamp k xs.length = m := ⟨_, rfl⟩
  have hmn : m ≤ n := by rw [← hm, hl]; unfold clamp; omega
  have hm1 : 1 ≤ m := by rw [← hm, hl]; unfold clamp; omega
  have hmx := maxV_nonneg (xs := xs) (by rw [hl]; exact h0)
  rw [hl] at hmx
  have HM := hid_ (maxP_any hx)
  have HT := hid_ (fun (w1 : World) (hb : Below w.heap.size w w1) => shapeTop (rdi_below hx hb) (by omega) k hm)
  have HX := hid_ hx
  have HL := hid_ hl
  have hmk := fun w => make_i64s w m (by omega)
  have HCV : Hid (chooseV xs k heat u = if allV xs k heat = 0 then maxV xs else (findV (chosenV xs k) (sharesV xs k heat) (u % allV xs k heat)).getD (-1)) := by show _ = _; rw [chooseV, if_neg (by omega)]
  have HHL : Hid ((heatsV xs k heat).length = m) := by show _ = _; rw [heatsV_length, hm]
  have HAT : Hid (∀ i, i < m → 0 ≤ (chosenV xs k).getD i 0 ∧ (chosenV xs k).getD i 0 < (n : Int) ∧ (heatsV xs k heat).getD i 0 = divV (xs.getD ((chosenV xs k).getD i 0).toNat 0) heat) := fun i hi => by
    have h1 := chosenV_at (xs := xs) (k := k) (i := i) (by rw [hm]; exact hi)
    rw [hl] at h1
    exact ⟨h1.1, h1.2, heatsV_at (by rw [hm]; exact hi)⟩
  have HCL : Hid ((chosenV xs k).length = m) := by show _ = _; rw [chosenV_length, hm]
  have HSH : Hid (sharesV xs k heat = softV (heatsV xs k heat)) := rfl
  have HAL : Hid (allV xs k heat = accTo (sharesV xs k heat) (sharesV xs k heat).length) := rfl
  clear hx hl hm
  generalize maxV xs = best at *
  go_enter Try.func40, Try.ntmps40
  go_wp2_with (first
    | ((go_at_call 20); (refine HM.out.mono ?_); (rintro e w1 ⟨rfl, hb⟩); (have HB1 := hid_ hb); (clear hb))
    | ((go_at_call 23); (refine (HT.out _ HB1.out).mono ?_); (rintro e w2 ⟨Ac, cc, rfl, hr, hb⟩); (have HB2 := hid_ (below_comp HB1.out hb)); (have HR := hid_ hr); (clear hb hr)))
  clear HM HT hmk
  go_loopw [42] (fun i wr => ∃ j : Nat, j ≤ m ∧ i = .int .i64 j ∧ Hid (Blk wr w2.heap.size 2 (rowc (fillL (heatsV xs k heat) m j))) ∧ Hid (Upd (fun _ => False) w2 wr)) (fun i _ => m - (intOf i).toNat)
  case atStart => exact ⟨0, Nat.zero_le _, rfl, hid_ (by rw [fillL_zero]; exact Blk.new _ _ _), hid_ ((Upd.refl _ w2).alloc _)⟩
  case round =>
    obtain ⟨j, hj, rfl, HB, HU⟩ := hrel
    by_cases hlt : j < m
    · have hlt' : (j : Int) < (m : Int) := by omega
      obtain ⟨b, o, rfl, d1⟩ := rdi_cell (rdi_below HR.out HU.out.toB) (j := j) (by rw [HCL.out]; exact hlt)
      obtain ⟨h1, h2, h3⟩ := HAT.out j hlt
      have hfs := fillL_step HHL.out hlt
      obtain ⟨q, hq⟩ : ∃ q : Nat, (chosenV xs k).getD j 0 = q := ⟨((chosenV xs k).getD j 0).toNat, by omega⟩
      rw [hq] at d1 h1 h2 h3
      rw [Int.toNat_natCast] at h3
      rw [h3] at hfs
      obtain ⟨b', o', rfl, d2⟩ := rdi_cell (rdi_below HX.out (below_comp HB2.out HU.out.toB)) (j := q) (by rw [HL.out]; omega)
      have d3 := rowc_cell HB.out (i := j) (by rw [fillL_length HHL.out hj]; exact hlt)
      have f3 := HB.out.frozen j
      have HFS := hid_ hfs
      clear hq h3 hfs
      generalize xs.getD q 0 = y at *
      go_wp2_with ((go_at_call 56); (refine (div_any _ _ _).mono ?_); (rintro e w1 ⟨rfl, rfl⟩))
      go_roundw
      case rel => exact ⟨j + 1, by omega, by go_num, hid_ (by rw [← HFS.out]; exact rowc_set HB.out j _), hid_ (HU.out.setCell (p := ⟨w2.heap.size, j, none⟩) (.inr (Nat.le_refl _)) _)⟩
      case measure => simp [intOf]; omega
    · obtain rfl : j = m := by omega
      clear hlt
      have hB := HB.out
      rw [fillL_all HHL.out] at hB
      have hS := soft_any (rowc_rd hB (k := j) (c := j) (by rw [HHL.out]; exact Nat.le_refl _) (Nat.le_refl _) (by unfold maxLen; omega)) (by rw [List.length_take, HHL.out]; omega)
      rw [List.take_of_length_le (by rw [HHL.out]; exact Nat.le_refl _), ← HSH.out] at hS
      have hsl : (sharesV xs k heat).length = j := by rw [HSH.out, softV_length, HHL.out]
      have hsr : ∀ p ∈ sharesV xs k heat, 0 ≤ p ∧ p ≤ 2147483647 := by rw [HSH.out]; exact softV_range _
      have HS := hid_ hS
      have HSL := hid_ hsl
      have HSR := hid_ hsr
      have HRc := hid_ (rdi_below HR.out HU.out.toB)
      clear hB hS hsl hsr HB HHL HAT HSH HX HR
      generalize sharesV xs k heat = p at *
      generalize chosenV xs k = l at *
      go_wp2_with ((go_at_call 58); (refine HS.out.mono ?_); (rintro e w3 ⟨As, cs, rfl, hO, hb⟩); (rw [HSL.out] at hO ⊢); (have HP := hid_ (show RdI w3 w3.heap.size .i64 (.slice As j cs) p from Rd.of_own hO)); (have HRl := hid_ (rdi_below HRc.out hb)); (have HB3 := hid_ (below_comp (below_comp HB2.out HU.out.toB) hb)); (clear hO hb))
      clear HRc HU HS
      go_loop [15, 61] (fun a i => ∃ q : Nat, q ≤ j ∧ i = .int .i64 q ∧ a = .int .u64 (accTo p q)) (fun _ i => j - (intOf i).toNat)
      case atStart => exact ⟨0, Nat.zero_le _, rfl, rfl⟩
      case round =>
        obtain ⟨q, hq, rfl, rfl⟩ := hrel
        by_cases hlt : q < j
        · have hlt' : (q : Int) < (j : Int) := by omega
          obtain ⟨b, o, rfl, d1⟩ := rdi_cell HP.out (j := q) (by rw [HSL.out]; exact hlt)
          have h1 := accTo_bound HSR.out (by decide) q
          have h2 := getD_mem_range HSR.out (by decide) q
          have HQ : Hid (accTo p (q + 1) = accTo p q + p.getD q 0) := rfl
          generalize p.getD q 0 = y at *
          generalize accTo p q = ac at *
          go_wp2_with fail
          go_round
          case rel => exact ⟨q + 1, by omega, by go_num, by rw [HQ.out]⟩
          case measure => simp [intOf]; omega
        · obtain rfl : q = j := by omega
          clear hlt
          have hal : allV xs k heat = accTo p q := by rw [HAL.out, HSL.out]
          have hab := accTo_bound HSR.out (by decide) q
          have hsum := accTo_drop p 0 (Nat.zero_le _)
          rw [HSL.out, accTo, List.drop_zero, Int.zero_add] at hsum
          have hcv := HCV.out
          rw [hal] at hcv
          have HSUM := hid_ hsum
          generalize accTo p q = all at *
          clear hsum hal HAL HCV
          by_cases hz : all = 0
          · rw [if_pos hz] at hcv
            subst hz
            have HCV := hid_ hcv
            clear hcv
            go_wp2_with fail
            go_ret
            exact ⟨by rw [HCV.out]; rfl, HB3.out⟩
          · rw [if_neg hz] at hcv
            have hzb : (all == 0) = false := beq_eq_false_iff_ne.2 hz
            have hap : 0 < all := by omega
            have hr0 := Int.emod_nonneg u (b := all) (by omega)
            have hr1 := Int.emod_lt_of_pos u (b := all) hap
            have HCV := hid_ hcv
            clear hcv
            go_wp2_with fail
            have hstart : u % all < p.sum := by rw [← HSUM.out]; exact hr1
            have HST := hid_ hstart
            obtain ⟨r0, hr9⟩ : ∃ r0, u % all = r0 := ⟨_, rfl⟩
            rw [hr9] at hr0 hr1 HST HCV ⊢
            clear hr9 hstart
            go_loop [18, 78] (fun lf i => ∃ (j : Nat) (r : Int), j ≤ q ∧ i = .int .i64 j ∧ lf = .int .u64 r ∧ 0 ≤ r ∧ r ≤ r0 ∧ Hid (r < (p.drop j).sum) ∧ Hid (findV l p r0 = findV (l.drop j) (p.drop j) r)) (fun _ i => q - (intOf i).toNat)
            case atStart => exact ⟨0, r0, Nat.zero_le _, rfl, rfl, hr0, Int.le_refl _, by rw [List.drop_zero]; exact HST, hid_ (by rw [List.drop_zero, List.drop_zero])⟩
            case round =>
              obtain ⟨j, r, hj, rfl, rfl, hra, hrb, HRS, HF⟩ := hrel
              by_cases hlt : j < q
              · have hlt' : (j : Int) < (q : Int) := by omega
                obtain ⟨b, o, rfl, d1⟩ := rdi_cell HP.out (j := j) (by rw [HSL.out]; exact hlt)
                obtain ⟨b', o', rfl, d2⟩ := rdi_cell HRl.out (j := j) (by rw [HCL.out]; exact hlt)
                have h2 := getD_mem_range HSR.out (by decide) j
                have e1 : p.drop j = p.getD j 0 :: p.drop (j + 1) := by
                  rw [List.drop_eq_getElem_cons (by rw [HSL.out]; exact hlt), List.getD_eq_getElem?_getD, List.getElem?_eq_getElem (by rw [HSL.out]; exact hlt)]
                  rfl
                have e2 : l.drop j = l.getD j 0 :: l.drop (j + 1) := by
                  rw [List.drop_eq_getElem_cons (by rw [HCL.out]; exact hlt), List.getD_eq_getElem?_getD, List.getElem?_eq_getElem (by rw [HCL.out]; exact hlt)]
                  rfl
                have hrs := HRS.out
                have hf := HF.out
                rw [e1, e2, findV] at hf
                rw [e1, List.sum_cons] at hrs
                have HRS2 := hid_ hrs
                have HF2 := hid_ hf
                clear e1 e2 hrs hf HRS HF
                generalize p.getD j 0 = y at *
                generalize l.getD j 0 = z at *
                by_cases hry : r < y
                · have hf := HF2.out
                  rw [if_pos hry] at hf
                  have hcv := HCV.out
                  rw [hf] at hcv
                  have HC2 := hid_ hcv
                  clear hf hcv
                  go_wp2_with fail
                  go_ret
                  exact ⟨by rw [HC2.out]; rfl, HB3.out⟩
                · have hf := HF2.out
                  rw [if_neg hry] at hf
                  have HF3 := hid_ hf
                  clear hf
                  go_wp2_with fail
                  go_round
                  case rel => exact ⟨j + 1, r - y, by omega, by go_num, by first | rfl | go_num, by omega, by omega, hid_ (by have := HRS2.out; omega), HF3⟩
                  case measure => simp [intOf]; omega
              · exfalso
                have h9 := HRS.out
                rw [List.drop_eq_nil_of_le (by rw [HSL.out]; omega)] at h9
                simp at h9
                omega

theorem choose_any {w : World} {B : Nat} {A : Option Addr} {n c : Nat} {xs : List Int} {k heat u : Int} (hx : RdI w B .i64 (.slice A n c) xs) (hu : 0 ≤ u) (hu2 : u ≤ 18446744073709551615) (hn : n ≤ 1048576) :
    Calls Try.prog 40 #[.slice A n c, .int .i64 k, .int .i64 heat, .int .u64 u] w (DrawnInt w (chooseV xs k heat u)) := by
  by_cases h : heat < 1 ∨ k < 2 ∨ n = 0
  · exact choose_no hx h
  · exact choose_run hx (by omega) (by omega) (by omega) hu hu2 hn
end Go.Proofs.Ytfinbkpmkgpffaa
