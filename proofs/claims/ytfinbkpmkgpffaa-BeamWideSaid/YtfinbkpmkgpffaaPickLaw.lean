/- The plain law of pick: the sorted places are the places in their order; the place at number t has the rank t. No condition. -/
import Derived.Test.YtfinbkpmkgpffaaPickWB
namespace Go.Proofs.Ytfinbkpmkgpffaa
open Go.RowKit

theorem ltx_tr (xs : List Int) (x y z : Int) (h1 : ltx xs x y) (h2 : ltx xs y z) : ltx xs x z := by
  unfold ltx at *
  omega
theorem ltx_irr (xs : List Int) (x : Int) : ¬ ltx xs x x := by
  unfold ltx
  omega
theorem cmp3_neg (x y : Int) : cmp3 x y < 0 ↔ x < y := by
  unfold cmp3
  split
  · simp_all
  · split <;> simp <;> omega
theorem iota_lt (n : Nat) : (iota n).Pairwise (· < ·) := by
  unfold iota
  rw [List.pairwise_map]
  exact List.pairwise_lt_range.imp (fun h => Int.ofNat_lt.2 h)
theorem iota_cmp (xs : List Int) (n : Nat) : (iota n).Pairwise (Cmp (cfx xs) (ltx xs)) := by
  refine (iota_lt n).imp ?_
  intro i j hij
  refine ⟨fun h => ?_, fun h => ?_⟩
  · rw [cfx, cmp3_neg] at h
    exact .inl h
  · rw [cfx, cmp3_neg] at h
    unfold ltx
    omega
theorem order_perm (xs : List Int) : (order xs).Perm (iota xs.length) := (stab_law (ltx_tr xs) (ltx_irr xs) (iota_cmp xs _)).1
theorem order_sorted (xs : List Int) : (order xs).Pairwise (ltx xs) := (stab_law (ltx_tr xs) (ltx_irr xs) (iota_cmp xs _)).2
theorem mem_iota {n : Nat} {x : Int} : x ∈ iota n ↔ 0 ≤ x ∧ x < (n : Int) := by
  refine ⟨iota_dom n x, fun h => ?_⟩
  unfold iota
  exact List.mem_map.2 ⟨x.toNat, List.mem_range.2 (by omega), Int.toNat_of_nonneg h.1⟩
theorem mem_order {xs : List Int} {x : Int} : x ∈ order xs ↔ 0 ≤ x ∧ x < (xs.length : Int) := by rw [(order_perm xs).mem_iff, mem_iota]
theorem order_at {xs : List Int} {t : Nat} (h : t < xs.length) : 0 ≤ (order xs).getD t 0 ∧ (order xs).getD t 0 < (xs.length : Int) := mem_order.1 (mem_of_getD (by rw [order_length]; exact h))
theorem order_rank {xs : List Int} {t : Nat} (h : t < xs.length) : rankTo xs ((order xs).getD t 0) xs.length = t := by
  unfold rankTo
  rw [← (order_perm xs).countP_eq]
  obtain ⟨a, ha⟩ : ∃ a, (order xs).getD t 0 = a := ⟨_, rfl⟩
  rw [ha]
  have ht : t < (order xs).length := by rw [order_length]; exact h
  have hs := order_sorted xs
  have e : order xs = (order xs).take t ++ a :: (order xs).drop (t + 1) := by
    have h1 := List.drop_eq_getElem_cons ht
    have h2 : (order xs)[t] = a := by rw [← ha, List.getD_eq_getElem?_getD, List.getElem?_eq_getElem ht]; rfl
    rw [h2] at h1
    rw [← h1, List.take_append_drop]
  have hl : ((order xs).take t).length = t := by rw [List.length_take]; omega
  rw [e] at hs ⊢
  rw [List.pairwise_append] at hs
  rw [List.countP_append, List.countP_cons]
  have c1 : ((order xs).take t).countP (fun j => decide (ltx xs j a)) = t := by
    conv => rhs; rw [← hl]
    exact List.countP_eq_length.2 (fun x hx => decide_eq_true (hs.2.2 x hx a (by simp)))
  have c2 : ((order xs).drop (t + 1)).countP (fun j => decide (ltx xs j a)) = 0 := by
    refine List.countP_eq_zero.2 (fun x hx h => ?_)
    exact ltx_irr xs x (ltx_tr xs _ _ _ (of_decide_eq_true h) ((List.pairwise_cons.1 hs.2.1).1 x hx))
  rw [c1, c2, if_neg (by simp [ltx_irr])]
  omega
theorem rankV_order {xs : List Int} {t : Nat} (h : t < xs.length) : rankV xs ((order xs).getD t 0) = t := by
  have := order_at h
  rw [rankV, if_neg (by omega), order_rank h]
theorem order_of_rank {xs : List Int} {i : Int} {t : Nat} (h0 : 0 ≤ i) (h1 : i < (xs.length : Int)) (hr : rankV xs i = t) : t < xs.length ∧ (order xs).getD t 0 = i := by
  obtain ⟨s, hs, he⟩ := List.getElem_of_mem (mem_order.2 ⟨h0, h1⟩)
  rw [order_length] at hs
  have e : (order xs).getD s 0 = i := by rw [List.getD_eq_getElem?_getD, List.getElem?_eq_getElem (by rw [order_length]; exact hs)]; exact he
  have := rankV_order hs
  rw [e, hr] at this
  have : t = s := by omega
  subst this
  exact ⟨hs, e⟩

/-- the document's list -/
def refT (xs : List Int) : Nat → List Int
  | 0 => []
  | t + 1 => refT xs t ++ (iota xs.length).filter (fun i => decide (rankV xs i = t))
theorem filter_rank {xs : List Int} {t : Nat} (h : t < xs.length) : (iota xs.length).filter (fun i => decide (rankV xs i = t)) = [(order xs).getD t 0] := by
  have hn : ((iota xs.length).filter (fun i => decide (rankV xs i = t))).Pairwise (· < ·) := (iota_lt _).sublist List.filter_sublist
  have hall : ∀ x ∈ (iota xs.length).filter (fun i => decide (rankV xs i = t)), x = (order xs).getD t 0 := fun x hx => by
    rw [List.mem_filter, mem_iota, decide_eq_true_eq] at hx
    exact (order_of_rank hx.1.1 hx.1.2 hx.2).2.symm
  have hin : (order xs).getD t 0 ∈ (iota xs.length).filter (fun i => decide (rankV xs i = t)) := by
    rw [List.mem_filter, mem_iota, decide_eq_true_eq]
    exact ⟨order_at h, rankV_order h⟩
  match hF : (iota xs.length).filter (fun i => decide (rankV xs i = t)), hn, hall, hin with
  | [], _, _, hin => cases hin
  | [x], _, hall, _ => rw [hall x (by simp)]
  | x :: y :: r, hn, hall, _ =>
    have h1 := hall x (by simp)
    have h2 := hall y (by simp)
    have h3 := (List.pairwise_cons.1 hn).1 y (by simp)
    omega
theorem refT_eq {xs : List Int} : ∀ {t : Nat}, t ≤ xs.length → refT xs t = (order xs).take t
  | 0, _ => by simp [refT]
  | t + 1, h => by
    have ht : t < (order xs).length := by rw [order_length]; omega
    rw [refT, refT_eq (by omega), filter_rank (by omega), List.take_succ_eq_append_getElem ht, List.getD_eq_getElem?_getD, List.getElem?_eq_getElem ht]
    rfl
theorem order_max {xs : List Int} {r : Int} (h : MaxIs xs xs.length r) (h0 : 0 < xs.length) : r = (order xs).getD 0 0 := by
  rcases h with ⟨h1, _⟩ | ⟨m, rfl, hm, h1, h2⟩
  · omega
  · have hr : rankTo xs m xs.length = 0 := by
      unfold rankTo
      refine List.countP_eq_zero.2 (fun x hx hd => ?_)
      have hx' := mem_iota.1 hx
      have hl := of_decide_eq_true hd
      unfold ltx at hl
      rw [Int.toNat_natCast] at hl
      have g1 := h1 x.toNat (by omega)
      rcases hl with hl | ⟨hl, hl2⟩
      · omega
      · have g2 := h2 x.toNat (by omega)
        omega
    have hv : rankV xs m = (0 : Nat) := by rw [rankV, if_neg (by omega), hr]
    exact (order_of_rank (by omega) (by omega) hv).2.symm
end Go.Proofs.Ytfinbkpmkgpffaa
