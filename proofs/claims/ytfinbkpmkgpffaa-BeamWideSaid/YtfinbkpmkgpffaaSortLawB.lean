/- The plain law of the merge in place: of two rows in order it makes one. Conditions: each two of the numbers, as they stand in the row, are compared as the order says; the order is transitive, and no number is ahead of itself. -/
import Derived.Test.YtfinbkpmkgpffaaSortLaw
namespace Go.Proofs.Ytfinbkpmkgpffaa
open Go.RowKit

theorem getD_left {L D : List Int} {i : Nat} (h : i < L.length) : (L ++ D).getD i 0 = L.getD i 0 := by
  simp [List.getD_eq_getElem?_getD, List.getElem?_append_left h]
theorem getD_right (A D : List Int) (i : Nat) : (A ++ D).getD (A.length + i) 0 = D.getD i 0 := by
  rw [List.getD_eq_getElem?_getD, List.getD_eq_getElem?_getD, List.getElem?_append_right (by omega), Nat.add_sub_cancel_left]
theorem srt {lt : Int → Int → Prop} {L : List Int} (h : L.Pairwise lt) {i j : Nat} (hij : i < j) (hj : j < L.length) : lt (L.getD i 0) (L.getD j 0) := by
  have := List.pairwise_iff_getElem.1 h i j (by omega) hj hij
  simpa [List.getD_eq_getElem?_getD, List.getElem?_eq_getElem hj, List.getElem?_eq_getElem (show i < L.length by omega)] using this
theorem mem_take_getD {L : List Int} {k : Nat} {x : Int} (h : x ∈ L.take k) : ∃ i, i < k ∧ i < L.length ∧ L.getD i 0 = x := by
  obtain ⟨i, hi, rfl⟩ := List.getElem_of_mem h
  rw [List.length_take] at hi
  refine ⟨i, by omega, by omega, ?_⟩
  simp [List.getD_eq_getElem?_getD, List.getElem?_eq_getElem (show i < L.length by omega)]
theorem mem_drop_getD {L : List Int} {k : Nat} {x : Int} (h : x ∈ L.drop k) : ∃ i, k ≤ i ∧ i < L.length ∧ L.getD i 0 = x := by
  obtain ⟨i, hi, rfl⟩ := List.getElem_of_mem h
  rw [List.length_drop] at hi
  refine ⟨k + i, by omega, by omega, ?_⟩
  simp [List.getD_eq_getElem?_getD, List.getElem?_eq_getElem (show k + i < L.length by omega)]
theorem srt_take {lt : Int → Int → Prop} {L : List Int} (h : L.Pairwise lt) (k : Nat) : (L.take k).Pairwise lt := h.sublist (List.take_sublist k L)
theorem srt_drop {lt : Int → Int → Prop} {L : List Int} (h : L.Pairwise lt) (k : Nat) : (L.drop k).Pairwise lt := h.sublist (List.drop_sublist k L)

section
variable {cf : Int → Int → Int} {lt : Int → Int → Prop} (tr : ∀ x y z, lt x y → lt y z → lt x z) (irr : ∀ x, ¬ lt x x)
include tr irr

theorem symL_law (A R B : List Int) (x : Int) (hR : R.Pairwise lt) (hc : ∀ y ∈ R, Cmp cf lt x y) {d : List Int} (hd : d = A ++ x :: (R ++ B)) {a m b : Nat} (ha : a = A.length) (hm : m = a + 1) (hb : b = m + R.length) :
    ∃ M, upR d a (bs (tL cf d a) (b - m) m b - 1 - a) = A ++ M ++ B ∧ M.Perm (x :: R) ∧ M.Pairwise lt := by
  have h0 : d.getD a 0 = x := by rw [hd]; exact getD_mid A x _ ha
  have h1 : ∀ j, j < R.length → d.getD (m + j) 0 = R.getD j 0 := fun j hj => by
    have e : d = (A ++ [x]) ++ (R ++ B) := by rw [hd]; simp
    have e2 : m + j = (A ++ [x]).length + j := by simp; omega
    rw [e, e2, getD_right, getD_left hj]
  have hp : ∀ j, j < R.length → (tL cf d a (m + j) = true ↔ lt (R.getD j 0) x) := fun j hj => by
    have hcc := hc _ (mem_of_getD hj)
    rw [tL, h0, h1 j hj, decide_eq_true_eq]
    refine ⟨hcc.1, fun h => ?_⟩
    by_cases h2 : cf (R.getD j 0) x < 0
    · exact h2
    · exact absurd (tr _ _ _ h (hcc.2 h2)) (irr _)
  have hbs := bs_le (tL cf d a) (b - m) m b (by omega)
  obtain ⟨k, hk⟩ : ∃ k, bs (tL cf d a) (b - m) m b = m + k := ⟨bs (tL cf d a) (b - m) m b - m, by omega⟩
  have hsp := bs_spec (tL cf d a) (b - m) m b (by omega) (by omega) (fun s t h2 h3 h4 h5 => by
    obtain ⟨i, rfl⟩ : ∃ i, s = m + i := ⟨s - m, by omega⟩
    obtain ⟨j, rfl⟩ : ∃ j, t = m + j := ⟨t - m, by omega⟩
    have h6 := (hp j (by omega)).1 h5
    refine (hp i (by omega)).2 ?_
    rcases Nat.lt_or_ge i j with h7 | h7
    · exact tr _ _ _ (srt hR h7 (by omega)) h6
    · obtain rfl : i = j := by omega
      exact h6)
  rw [hk] at hsp hbs ⊢
  have e : m + k - 1 - a = k := by omega
  rw [e, hd, upR_seg A R B x ha k (by omega)]
  refine ⟨R.take k ++ x :: R.drop k, by simp, ?_, ?_⟩
  · refine (List.perm_middle).trans ?_
    rw [List.take_append_drop]
  · refine List.pairwise_append.2 ⟨srt_take hR k, List.pairwise_cons.2 ⟨fun y hy => ?_, srt_drop hR k⟩, fun y hy z hz => ?_⟩
    · obtain ⟨i, h2, h3, rfl⟩ := mem_drop_getD hy
      have h4 := hsp.2 (m + i) (by omega) (by omega)
      rw [tL, h0, h1 i h3, decide_eq_false_iff_not] at h4
      exact (hc _ (mem_of_getD h3)).2 h4
    · obtain ⟨i, h2, h3, rfl⟩ := mem_take_getD hy
      have h4 := (hp i h3).1 (hsp.1 (m + i) (by omega) (by omega))
      rw [List.mem_cons] at hz
      rcases hz with rfl | hz
      · exact h4
      · obtain ⟨j, h5, h6, rfl⟩ := mem_drop_getD hz
        exact srt hR (by omega) h6

theorem symR_law (A L B : List Int) (y : Int) (hL : L.Pairwise lt) (hc : ∀ x ∈ L, Cmp cf lt x y) {d : List Int} (hd : d = A ++ L ++ y :: B) {a m : Nat} (ha : a = A.length) (hm : m = a + L.length) :
    ∃ M, dnR d m (m - bs (tR cf d m) (m - a) a m) = A ++ M ++ B ∧ M.Perm (L ++ [y]) ∧ M.Pairwise lt := by
  have h0 : d.getD m 0 = y := by rw [hd]; exact getD_mid (A ++ L) y _ (by simp; omega)
  have h1 : ∀ j, j < L.length → d.getD (a + j) 0 = L.getD j 0 := fun j hj => by
    rw [hd, ha, List.append_assoc, getD_right, getD_left hj]
  have hp : ∀ j, j < L.length → (tR cf d m (a + j) = true ↔ lt (L.getD j 0) y) := fun j hj => by
    have hcc := hc _ (mem_of_getD hj)
    rw [tR, h0, h1 j hj, Bool.not_eq_true', decide_eq_false_iff_not]
    refine ⟨hcc.2, fun h h2 => ?_⟩
    exact absurd (tr _ _ _ h (hcc.1 h2)) (irr _)
  have hbs := bs_le (tR cf d m) (m - a) a m (by omega)
  obtain ⟨k, hk⟩ : ∃ k, bs (tR cf d m) (m - a) a m = a + k := ⟨bs (tR cf d m) (m - a) a m - a, by omega⟩
  have hsp := bs_spec (tR cf d m) (m - a) a m (by omega) (by omega) (fun s t h2 h3 h4 h5 => by
    obtain ⟨i, rfl⟩ : ∃ i, s = a + i := ⟨s - a, by omega⟩
    obtain ⟨j, rfl⟩ : ∃ j, t = a + j := ⟨t - a, by omega⟩
    have h6 := (hp j (by omega)).1 h5
    refine (hp i (by omega)).2 ?_
    rcases Nat.lt_or_ge i j with h7 | h7
    · exact tr _ _ _ (srt hL h7 (by omega)) h6
    · obtain rfl : i = j := by omega
      exact h6)
  rw [hk] at hsp hbs ⊢
  rw [hd, dnR_seg A L B y (by omega) (m - (a + k)) (by omega)]
  have e : L.length - (m - (a + k)) = k := by omega
  rw [e]
  refine ⟨L.take k ++ y :: L.drop k, by simp, ?_, ?_⟩
  · refine (List.perm_middle).trans ?_
    rw [List.take_append_drop]
    exact (List.perm_append_singleton y L).symm
  · refine List.pairwise_append.2 ⟨srt_take hL k, List.pairwise_cons.2 ⟨fun x hx => ?_, srt_drop hL k⟩, fun x hx z hz => ?_⟩
    · obtain ⟨i, h2, h3, rfl⟩ := mem_drop_getD hx
      have h4 := hsp.2 (a + i) (by omega) (by omega)
      rw [tR, h0, h1 i h3, Bool.not_eq_false', decide_eq_true_eq] at h4
      exact (hc _ (mem_of_getD h3)).1 h4
    · obtain ⟨i, h2, h3, rfl⟩ := mem_take_getD hx
      have h4 := (hp i h3).1 (hsp.1 (a + i) (by omega) (by omega))
      rw [List.mem_cons] at hz
      rcases hz with rfl | hz
      · exact h4
      · obtain ⟨j, h5, h6, rfl⟩ := mem_drop_getD hz
        exact srt hL (by omega) h6

/-- where the halves part: what is ahead of it goes ahead of what is behind -/
theorem stM_law (A L R B : List Int) (hL : L.Pairwise lt) (hR : R.Pairwise lt) (hc : ∀ x ∈ L, ∀ y ∈ R, Cmp cf lt x y) {d : List Int} (hd : d = A ++ L ++ R ++ B) {a m b : Nat} (ha : a = A.length) (hm : m = a + L.length) (hb : b = m + R.length) (hL0 : 0 < L.length) (hR0 : 0 < R.length) :
    ∃ k l, stM cf a m b d = a + k ∧ k ≤ L.length ∧ l ≤ R.length ∧ k + l = (a + b) / 2 - a ∧ (∀ x ∈ L.take k, ∀ z ∈ R.drop l, lt x z) ∧ (∀ y ∈ R.take l, ∀ x ∈ L.drop k, lt y x) := by
  obtain ⟨mid, hmid⟩ : ∃ mid, mid = (a + b) / 2 := ⟨_, rfl⟩
  obtain ⟨s0, hs0⟩ : ∃ s0, s0 = (if mid < m then mid + m - b else a) := ⟨_, rfl⟩
  obtain ⟨r0, hr0⟩ : ∃ r0, r0 = (if mid < m then mid else m) := ⟨_, rfl⟩
  have hs1 : s0 ≤ r0 ∧ a ≤ s0 ∧ r0 ≤ m ∧ r0 ≤ mid ∧ mid + m - b ≤ s0 := by rw [hs0, hr0]; split <;> omega
  obtain ⟨q1, q2, q3, q4, q5⟩ := hs1
  have h1 : ∀ j, j < L.length → d.getD (a + j) 0 = L.getD j 0 := fun j hj => by
    rw [hd, ha, List.append_assoc, List.append_assoc, getD_right, getD_left hj]
  have h2 : ∀ j, j < R.length → d.getD (m + j) 0 = R.getD j 0 := fun j hj => by
    have e2 : m + j = (A ++ L).length + j := by simp; omega
    rw [hd, List.append_assoc (A ++ L), e2, getD_right, getD_left hj]
  have hst : stM cf a m b d = bs (tM cf d (mid + m)) (b - a) s0 r0 := by rw [hs0, hr0, hmid]; rfl
  have hp : ∀ i j, i < L.length → j < R.length → a + i + (m + j) = mid + m - 1 → (tM cf d (mid + m) (a + i) = true ↔ lt (L.getD i 0) (R.getD j 0)) := fun i j hi hj hij => by
    have hcc := hc _ (mem_of_getD hi) _ (mem_of_getD hj)
    have e : mid + m - 1 - (a + i) = m + j := by omega
    rw [tM, e, h1 i hi, h2 j hj, Bool.not_eq_true', decide_eq_false_iff_not]
    refine ⟨hcc.2, fun h h3 => ?_⟩
    exact absurd (tr _ _ _ h (hcc.1 h3)) (irr _)
  have hpf : ∀ i j, i < L.length → j < R.length → a + i + (m + j) = mid + m - 1 → tM cf d (mid + m) (a + i) = false → lt (R.getD j 0) (L.getD i 0) := fun i j hi hj hij h => by
    have hcc := hc _ (mem_of_getD hi) _ (mem_of_getD hj)
    have e : mid + m - 1 - (a + i) = m + j := by omega
    rw [tM, e, h1 i hi, h2 j hj, Bool.not_eq_false', decide_eq_true_eq] at h
    exact hcc.1 h
  have hle := bs_le (tM cf d (mid + m)) (b - a) s0 r0 q1
  have hsp := bs_spec (tM cf d (mid + m)) (b - a) s0 r0 q1 (by omega) (fun s t g2 g3 g4 g5 => by
    obtain ⟨i, rfl⟩ : ∃ i, s = a + i := ⟨s - a, by omega⟩
    obtain ⟨j, rfl⟩ : ∃ j, t = a + j := ⟨t - a, by omega⟩
    rcases Nat.lt_or_ge i j with h7 | h7
    · have h6 := (hp j (mid - 1 - (a + j)) (by omega) (by omega) (by omega)).1 g5
      refine (hp i (mid - 1 - (a + i)) (by omega) (by omega) (by omega)).2 ?_
      exact tr _ _ _ (tr _ _ _ (srt hL h7 (by omega)) h6) (srt hR (by omega) (by omega))
    · obtain rfl : i = j := by omega
      exact g5)
  rw [← hst] at hle hsp
  obtain ⟨k, hk⟩ : ∃ k, stM cf a m b d = a + k := ⟨stM cf a m b d - a, by omega⟩
  rw [hk] at hle hsp
  refine ⟨k, mid - a - k, hk, by omega, by omega, by rw [← hmid]; omega, fun x hx z hz => ?_, fun y hy x hx => ?_⟩
  · obtain ⟨i, g1, g2, rfl⟩ := mem_take_getD hx
    obtain ⟨j, g3, g4, rfl⟩ := mem_drop_getD hz
    rcases Nat.lt_or_ge s0 (a + k) with g5 | g5
    · have g6 := (hp (k - 1) (mid - a - k) (by omega) (by omega) (by omega)).1 (hsp.1 _ (by omega) (by omega))
      have g7 : lt (L.getD i 0) (R.getD (mid - a - k) 0) := by
        rcases Nat.lt_or_ge i (k - 1) with h | h
        · exact tr _ _ _ (srt hL h (by omega)) g6
        · obtain rfl : i = k - 1 := by omega
          exact g6
      rcases Nat.lt_or_ge (mid - a - k) j with h | h
      · exact tr _ _ _ g7 (srt hR h g4)
      · obtain rfl : j = mid - a - k := by omega
        exact g7
    · exfalso
      by_cases hmm : mid < m
      · rw [if_pos hmm] at hs0
        omega
      · rw [if_neg hmm] at hs0
        omega
  · obtain ⟨j, g1, g2, rfl⟩ := mem_take_getD hy
    obtain ⟨i, g3, g4, rfl⟩ := mem_drop_getD hx
    rcases Nat.lt_or_ge (a + k) r0 with g5 | g5
    · have g6 := hpf k (mid - a - k - 1) (by omega) (by omega) (by omega) (hsp.2 _ (by omega) g5)
      have g7 : lt (R.getD j 0) (L.getD k 0) := by
        rcases Nat.lt_or_ge j (mid - a - k - 1) with h | h
        · exact tr _ _ _ (srt hR h (by omega)) g6
        · obtain rfl : j = mid - a - k - 1 := by omega
          exact g6
      rcases Nat.lt_or_ge k i with h | h
      · exact tr _ _ _ g7 (srt hL h g4)
      · obtain rfl : i = k := by omega
        exact g7
    · exfalso
      by_cases hmm : mid < m
      · rw [if_pos hmm] at hr0
        omega
      · rw [if_neg hmm] at hr0
        omega
end
end Go.Proofs.Ytfinbkpmkgpffaa
