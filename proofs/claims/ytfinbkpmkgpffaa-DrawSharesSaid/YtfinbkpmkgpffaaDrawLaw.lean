/- The plain laws of the choosing of a token: no program in sight. No condition but what each states. -/
import Derived.Test.YtfinbkpmkgpffaaChooseWB
import Derived.Test.YtfinbkpmkgpffaaPickMovedW
namespace Go.Proofs.Ytfinbkpmkgpffaa
open Go.RowKit

/-! Of the best ones. -/
theorem findV_mem : ∀ {l p : List Int} {r x : Int}, findV l p r = some x → x ∈ l
  | l :: ls, p :: ps, r, x, h => by
    unfold findV at h
    split at h
    · injection h with h; subst h; simp
    · exact List.mem_cons_of_mem _ (findV_mem h)
  | [], _, _, _, h => by simp [findV] at h
  | _ :: _, [], _, _, h => by simp [findV] at h
theorem maxV_at {xs : List Int} (h : 0 < xs.length) : maxV xs = (order xs).getD 0 0 := by rw [maxV, if_neg (by omega)]
/-- what is chosen is one of the k best -/
theorem chooseV_best {xs : List Int} (h0 : 0 < xs.length) (k heat u : Int) :
    ∃ t : Nat, t < xs.length ∧ chooseV xs k heat u = (order xs).getD t 0 ∧ (k < 1 ∨ (t : Int) < k) ∧ ((1 < k ∧ 0 < heat) ∨ t = 0) := by
  unfold chooseV
  by_cases h1 : heat < 1 ∨ k < 2
  · rw [if_pos h1]
    exact ⟨0, h0, maxV_at h0, by omega, .inr rfl⟩
  rw [if_neg h1]
  by_cases h2 : allV xs k heat = 0
  · rw [if_pos h2]
    exact ⟨0, h0, maxV_at h0, by omega, .inr rfl⟩
  rw [if_neg h2]
  have hlen : (chosenV xs k).length = (sharesV xs k heat).length := by rw [chosenV_length, sharesV_length]
  have hsum : allV xs k heat = (sharesV xs k heat).sum := by rw [allV, accTo_drop _ 0 (Nat.zero_le _), accTo, List.drop_zero, Int.zero_add]
  have hpos : 0 ≤ allV xs k heat := (accTo_bound (softV_range _) (by decide) _).1
  obtain ⟨x, hx⟩ := findV_some (chosenV xs k) (sharesV xs k heat) (u % allV xs k heat) hlen (Int.emod_nonneg _ h2) (by rw [← hsum]; exact Int.emod_lt_of_pos _ (by omega))
  rw [hx]
  have hm := findV_mem hx
  obtain ⟨t, ht, e⟩ := List.mem_iff_getElem.1 hm
  have hl := chosenV_length xs k
  have hc : clamp k xs.length ≤ xs.length ∧ (clamp k xs.length : Int) ≤ k := by unfold clamp; omega
  refine ⟨t, by omega, ?_, by omega, by omega⟩
  show x = _
  have e2 : (chosenV xs k)[t]? = some x := by rw [List.getElem?_eq_getElem ht, e]
  rw [chosenV, List.getElem?_take_of_lt (by omega)] at e2
  rw [List.getD_eq_getElem?_getD, e2]
  rfl
theorem chooseV_one (xs : List Int) (heat u : Int) : chooseV xs 1 heat u = maxV xs := by rw [chooseV, if_pos (by omega)]
theorem chooseV_cold (xs : List Int) (k u : Int) : chooseV xs k 0 u = maxV xs := by rw [chooseV, if_pos (by omega)]

/-! Of scores that are the same. -/
theorem maxTo_same {n : Nat} (h : 0 < n) (d : Int) : ∀ k, k ≤ n → maxTo (List.replicate n d) k = d
  | 0, _ => by rw [maxTo, List.getD_eq_getElem?_getD, List.getElem?_replicate, if_pos h]; rfl
  | k + 1, hk => by
    rw [maxTo, maxTo_same h d k (by omega), List.getD_eq_getElem?_getD, List.getElem?_replicate, if_pos (by omega)]
    exact Int.max_self d
theorem soft_same {n : Nat} (h : 0 < n) (d : Int) : softV (List.replicate n d) = List.replicate n (divV 65536 (accTo (List.replicate n 65536) n)) := by
  have e : expL (List.replicate n d) = List.replicate n 65536 := by
    rw [expL, topV, List.length_replicate, maxTo_same h d n (Nat.le_refl _), List.map_replicate, Int.sub_self]
    congr 1
  rw [softV, e, List.length_replicate, List.map_replicate]
theorem order_same (n : Nat) (v : Int) : order (List.replicate n v) = order (List.replicate n 0) := by
  have := order_moved (List.replicate n 0) v
  rw [List.map_replicate, Int.zero_add] at this
  exact this
theorem shares_law : ∀ n : Nat, 2 ≤ n → n ≤ 7 → ∀ i : Nat, i < n →
    (∀ s : Int, s = divV 65536 (accTo (List.replicate n 65536) n) → s = 65536 / (n : Int) ∧ accTo (List.replicate n s) n = (n : Int) * s ∧ (n : Int) * s ≠ 0 ∧
      findV ((order (List.replicate n 0)).take (clamp n n)) (List.replicate n s) (((i : Int) * s) % ((n : Int) * s)) = some (i : Int) ∧
      findV ((order (List.replicate n 0)).take (clamp n n)) (List.replicate n s) ((((i : Int) + 1) * s - 1) % ((n : Int) * s)) = some (i : Int) ∧
      findV ((order (List.replicate n 0)).take (clamp n n)) (List.replicate n s) (((n : Int) * s) % ((n : Int) * s)) = some 0) := by
  intro n h1 h2 i hi s hs
  subst hs
  have hn : n = 2 ∨ n = 3 ∨ n = 4 ∨ n = 5 ∨ n = 6 ∨ n = 7 := by omega
  rcases hn with rfl | rfl | rfl | rfl | rfl | rfl <;> (revert i; decide +kernel)
theorem choose_same {n : Nat} (h1 : 2 ≤ n) (h2 : n ≤ 7) {v heat : Int} (hh : 1 ≤ heat) (u : Int) :
    chooseV (List.replicate n v) n heat u = (findV ((order (List.replicate n 0)).take (clamp n n)) (List.replicate n (65536 / (n : Int))) (u % ((n : Int) * (65536 / (n : Int))))).getD (-1) := by
  have hc : chosenV (List.replicate n v) n = (order (List.replicate n 0)).take (clamp n n) := by rw [chosenV, order_same, List.length_replicate]
  have hh2 : heatsV (List.replicate n v) n heat = List.replicate n (divV v heat) := by
    refine List.eq_replicate_iff.2 ⟨by rw [heatsV_length, List.length_replicate]; unfold clamp; omega, fun x hx => ?_⟩
    unfold heatsV at hx
    obtain ⟨i, hi, rfl⟩ := List.mem_map.1 hx
    have hm := mem_order.1 (List.mem_of_mem_take hi)
    rw [List.length_replicate] at hm
    rw [List.getD_eq_getElem?_getD, List.getElem?_replicate, if_pos (by omega)]
    rfl
  have hs : sharesV (List.replicate n v) n heat = List.replicate n (65536 / (n : Int)) := by
    rw [sharesV, hh2, soft_same (by omega), (shares_law n h1 h2 0 (by omega) _ rfl).1]
  have ha : allV (List.replicate n v) n heat = (n : Int) * (65536 / (n : Int)) := by
    have := (shares_law n h1 h2 0 (by omega) _ rfl)
    rw [this.1] at this
    rw [allV, hs, List.length_replicate, this.2.1]
  have hne : (n : Int) * (65536 / (n : Int)) ≠ 0 := by
    have := (shares_law n h1 h2 0 (by omega) _ rfl)
    rw [this.1] at this
    exact this.2.2.1
  rw [chooseV, if_neg (by omega), ha, if_neg hne, hc, hs]
theorem same_low {n i : Nat} (h1 : 2 ≤ n) (h2 : n ≤ 7) (hi : i < n) {v heat : Int} (hh : 1 ≤ heat) : chooseV (List.replicate n v) n heat ((i : Int) * (65536 / (n : Int))) = i := by
  have := (shares_law n h1 h2 i hi _ rfl)
  rw [this.1] at this
  rw [choose_same h1 h2 hh, this.2.2.2.1]
  rfl
theorem same_high {n i : Nat} (h1 : 2 ≤ n) (h2 : n ≤ 7) (hi : i < n) {v heat : Int} (hh : 1 ≤ heat) : chooseV (List.replicate n v) n heat (((i : Int) + 1) * (65536 / (n : Int)) - 1) = i := by
  have := (shares_law n h1 h2 i hi _ rfl)
  rw [this.1] at this
  rw [choose_same h1 h2 hh, this.2.2.2.2.1]
  rfl
theorem same_round {n : Nat} (h1 : 2 ≤ n) (h2 : n ≤ 7) {v heat : Int} (hh : 1 ≤ heat) : chooseV (List.replicate n v) n heat ((n : Int) * (65536 / (n : Int))) = 0 := by
  have := (shares_law n h1 h2 0 (by omega) _ rfl)
  rw [this.1] at this
  rw [choose_same h1 h2 hh, this.2.2.2.2.2]
  rfl
end Go.Proofs.Ytfinbkpmkgpffaa
