/- The plain law of the stable sort: what the library's stable sort computes is a permutation, and in order. Conditions: each two of the numbers, as they stand in the row, are compared as the order says; the order is transitive, and no number is ahead of itself. -/
import Derived.Test.YtfinbkpmkgpffaaSortWF
namespace Go.Proofs.Ytfinbkpmkgpffaa
open Go.RowKit

theorem getD_mid (A : List Int) (u : Int) (D : List Int) {i : Nat} (hi : i = A.length) : (A ++ u :: D).getD i 0 = u := by
  subst hi
  rw [List.getD_eq_getElem?_getD, List.getElem?_append_right (Nat.le_refl _), Nat.sub_self]
  rfl
theorem set_mid (A : List Int) (u v : Int) (D : List Int) {i : Nat} (hi : i = A.length) : (A ++ u :: D).set i v = A ++ v :: D := by
  subst hi
  rw [List.set_append_right _ _ (Nat.le_refl _), Nat.sub_self]
  rfl
theorem swapAt_seg (A B D : List Int) (u v : Int) {i j : Nat} (hi : i = A.length) (hj : j = A.length + 1 + B.length) : swapAt (A ++ u :: (B ++ v :: D)) i j = A ++ v :: (B ++ u :: D) := by
  have e : ∀ w : Int, A ++ w :: (B ++ v :: D) = (A ++ w :: B) ++ v :: D := fun w => by simp
  have e2 : ∀ w : Int, j = (A ++ w :: B).length := fun w => by simp; omega
  unfold swapAt
  rw [getD_mid A u _ hi, e u, getD_mid _ v D (e2 u), ← e u, set_mid A u v _ hi, e v, set_mid _ v u D (e2 v)]
  simp
theorem swapAt_gse (A B D : List Int) (u v : Int) {i j : Nat} (hi : i = A.length) (hj : j = A.length + 1 + B.length) : swapAt (A ++ u :: (B ++ v :: D)) j i = A ++ v :: (B ++ u :: D) := by
  rw [← swapAt_seg A B D u v hi hj]
  unfold swapAt
  rw [List.set_comm _ _ (by omega)]

theorem swR_seg (A X M Y D : List Int) (hXY : X.length = Y.length) {a b : Nat} (ha : a = A.length) (hb : b = A.length + X.length + M.length) : ∀ k, k ≤ X.length → swR (A ++ X ++ M ++ Y ++ D) a b k = A ++ (Y.take k ++ X.drop k) ++ M ++ (X.take k ++ Y.drop k) ++ D
  | 0, _ => by simp [swR]
  | k + 1, hk => by
    rw [swR, swR_seg A X M Y D hXY ha hb k (by omega), List.drop_eq_getElem_cons (l := X) (i := k) (by omega), List.drop_eq_getElem_cons (l := Y) (i := k) (by omega)]
    have h := swapAt_seg (A ++ Y.take k) (X.drop (k + 1) ++ M ++ X.take k) (Y.drop (k + 1) ++ D) X[k] Y[k] (i := a + k) (j := b + k) (by simp; omega) (by simp; omega)
    have e1 : X.take (k + 1) = X.take k ++ [X[k]] := by rw [List.take_succ_eq_append_getElem]
    have e2 : Y.take (k + 1) = Y.take k ++ [Y[k]] := by rw [List.take_succ_eq_append_getElem]
    rw [e1, e2]
    simp only [List.append_assoc, List.cons_append, List.nil_append] at h ⊢
    exact h
theorem swR_all (A X M Y D : List Int) (hXY : X.length = Y.length) {a b : Nat} (ha : a = A.length) (hb : b = A.length + X.length + M.length) : swR (A ++ X ++ M ++ Y ++ D) a b X.length = A ++ Y ++ M ++ X ++ D := by
  rw [swR_seg A X M Y D hXY ha hb _ (Nat.le_refl _), List.take_of_length_le (by omega), List.drop_of_length_le (Nat.le_refl _), List.take_of_length_le (Nat.le_refl _), List.drop_of_length_le (by omega)]
  simp

theorem rot_seg : ∀ (f : Nat) (A L R B : List Int) {m i j : Nat}, m = A.length + L.length → i = L.length → j = R.length → 0 < L.length → 0 < R.length → L.length + R.length ≤ f → rot m f i j (A ++ L ++ R ++ B) = A ++ R ++ L ++ B
  | 0, A, L, R, B, m, i, j, hm, hi, hj, h1, h2, hf => by omega
  | f + 1, A, L, R, B, m, i, j, hm, hi, hj, hL0, hR0, hf => by
    rw [rot]
    split
    · rename_i hij
      have := swR_all A L [] R B (by omega) (a := m - i) (b := m) (by omega) (by simp; omega)
      rw [← hi] at this
      simpa using this
    · split
      · rename_i hij hlt
        have h1 := swR_all A (L.take j) (L.drop j) R B (by simp; omega) (a := m - i) (b := m) (by omega) (by simp; omega)
        have e : A ++ L.take j ++ L.drop j ++ R ++ B = A ++ L ++ R ++ B := by rw [List.append_assoc A, List.take_append_drop]
        have e2 : (L.take j).length = j := by simp; omega
        rw [e, e2] at h1
        rw [h1, rot_seg f (A ++ R) (L.drop j) (L.take j) B (by simp; omega) (by simp; omega) (by simp; omega) (by simp; omega) (by simp; omega) (by simp; omega)]
        rw [List.append_assoc (A ++ R), List.take_append_drop]
      · rename_i hij hlt
        have h1 := swR_all A L (R.take (j - i)) (R.drop (j - i)) B (by simp; omega) (a := m - i) (b := m + j - i) (by omega) (by simp; omega)
        have e : A ++ L ++ R.take (j - i) ++ R.drop (j - i) ++ B = A ++ L ++ R ++ B := by rw [List.append_assoc (A ++ L), List.take_append_drop]
        rw [e, ← hi] at h1
        have h2 := rot_seg f A (R.drop (j - i)) (R.take (j - i)) (L ++ B) (m := m) (i := i) (j := j - i) (by simp; omega) (by simp; omega) (by simp; omega) (by simp; omega) (by simp; omega) (by simp; omega)
        rw [h1]
        have e3 : A ++ R.drop (j - i) ++ R.take (j - i) ++ L ++ B = A ++ R.drop (j - i) ++ R.take (j - i) ++ (L ++ B) := by simp
        rw [e3, h2, List.append_assoc A, List.take_append_drop]
        simp

theorem upR_seg (A Y D : List Int) (x : Int) {a : Nat} (ha : a = A.length) : ∀ k, k ≤ Y.length → upR (A ++ x :: (Y ++ D)) a k = A ++ Y.take k ++ x :: (Y.drop k ++ D)
  | 0, _ => by simp [upR]
  | k + 1, hk => by
    rw [upR, upR_seg A Y D x ha k (by omega), List.drop_eq_getElem_cons (l := Y) (i := k) (by omega)]
    have h := swapAt_seg (A ++ Y.take k) [] (Y.drop (k + 1) ++ D) x Y[k] (i := a + k) (j := a + k + 1) (by simp; omega) (by simp; omega)
    rw [List.take_succ_eq_append_getElem (l := Y) (by omega)]
    simp only [List.append_assoc, List.cons_append, List.nil_append] at h ⊢
    exact h
theorem dnR_seg (A Y D : List Int) (x : Int) {m : Nat} (hm : m = A.length + Y.length) : ∀ k, k ≤ Y.length → dnR (A ++ Y ++ x :: D) m k = A ++ Y.take (Y.length - k) ++ x :: (Y.drop (Y.length - k) ++ D)
  | 0, _ => by simp [dnR]
  | k + 1, hk => by
    rw [dnR, dnR_seg A Y D x hm k (by omega)]
    obtain ⟨q, hq⟩ : ∃ q, q = Y.length - (k + 1) := ⟨_, rfl⟩
    have hq1 : Y.length - k = q + 1 := by omega
    have hq2 : q < Y.length := by omega
    rw [← hq, hq1, List.take_succ_eq_append_getElem (l := Y) hq2, List.drop_eq_getElem_cons (l := Y) (i := q) hq2]
    have h := swapAt_gse (A ++ Y.take q) [] (Y.drop (q + 1) ++ D) Y[q] x (i := m - k - 1) (j := m - k) (by simp; omega) (by simp; omega)
    simp only [List.append_assoc, List.cons_append, List.nil_append] at h ⊢
    exact h

theorem bs_spec (p : Nat → Bool) : ∀ (f i j : Nat), i ≤ j → j - i ≤ f → (∀ s t, i ≤ s → s ≤ t → t < j → p t = true → p s = true) → (∀ t, i ≤ t → t < bs p f i j → p t = true) ∧ (∀ t, bs p f i j ≤ t → t < j → p t = false)
  | 0, i, j, h, hf, hp => ⟨fun t h1 h2 => by rw [bs] at h2; omega, fun t h1 h2 => by rw [bs] at h1; omega⟩
  | f + 1, i, j, h, hf, hp => by
    unfold bs
    split
    · split
      · rename_i hlt hh
        have ih := bs_spec p f ((i + j) / 2 + 1) j (by omega) (by omega) (fun s t h1 h2 h3 => hp s t (by omega) h2 h3)
        refine ⟨fun t h1 h2 => ?_, ih.2⟩
        rcases Nat.lt_or_ge t ((i + j) / 2 + 1) with h3 | h3
        · exact hp t _ h1 (by omega) (by omega) hh
        · exact ih.1 t h3 h2
      · rename_i hlt hh
        have ih := bs_spec p f i ((i + j) / 2) (by omega) (by omega) (fun s t h1 h2 h3 => hp s t h1 h2 (by omega))
        refine ⟨ih.1, fun t h1 h2 => ?_⟩
        rcases Nat.lt_or_ge t ((i + j) / 2) with h3 | h3
        · exact ih.2 t h1 h3
        · cases hpt : p t with
          | false => rfl
          | true => exact absurd (hp _ t (by omega) h3 h2 hpt) hh
    · exact ⟨fun t h1 h2 => by omega, fun t h1 h2 => by omega⟩

/-- x, ahead in the row, and y, behind it, are compared as the order says. -/
def Cmp (cf : Int → Int → Int) (lt : Int → Int → Prop) (x y : Int) : Prop := (cf y x < 0 → lt y x) ∧ (¬ cf y x < 0 → lt x y)

section
variable {cf : Int → Int → Int} {lt : Int → Int → Prop} (tr : ∀ x y z, lt x y → lt y z → lt x z)
include tr

theorem insIn_seg (A : List Int) (x : Int) : ∀ (k : Nat) (U T : List Int), U.length = k → U.Pairwise lt → (∀ u ∈ U, Cmp cf lt u x) →
    ∃ U1 U2, U = U1 ++ U2 ∧ insIn cf A.length (A.length + k) (A ++ U ++ x :: T) = A ++ U1 ++ x :: (U2 ++ T) ∧ (∀ u ∈ U1, lt u x) ∧ (∀ u ∈ U2, lt x u)
  | 0, U, T, hk, _, _ => by
    have hU : U = [] := List.length_eq_zero_iff.1 hk
    subst hU
    refine ⟨[], [], rfl, ?_, by simp, by simp⟩
    rw [Nat.add_zero]
    cases hA : A.length with
    | zero => rw [insIn]; simp
    | succ j => rw [insIn, if_neg (fun h => by omega)]; simp
  | k + 1, U, T, hk, hs, hc => by
    rcases List.eq_nil_or_concat U with rfl | ⟨V, u, rfl⟩
    · simp at hk
    simp only [List.concat_eq_append] at hk hs hc ⊢
    have hV : V.length = k := by simpa using hk
    have e1 : (A ++ (V ++ [u]) ++ x :: T).getD (A.length + k + 1) 0 = x := getD_mid _ x T (by simp; omega)
    have e2 : (A ++ (V ++ [u]) ++ x :: T).getD (A.length + k) 0 = u := by
      have := getD_mid (A ++ V) u (x :: T) (i := A.length + k) (by simp; omega)
      simpa using this
    rw [← Nat.add_assoc, insIn, e1, e2]
    have hsw : swapAt (A ++ (V ++ [u]) ++ x :: T) (A.length + k + 1) (A.length + k) = A ++ V ++ x :: (u :: T) := by
      have := swapAt_gse (A ++ V) [] T u x (i := A.length + k) (j := A.length + k + 1) (by simp; omega) (by simp; omega)
      simpa using this
    rw [hsw]
    have hsV : V.Pairwise lt := (List.pairwise_append.1 hs).1
    by_cases h : cf x u < 0
    · rw [if_pos ⟨by omega, h⟩]
      obtain ⟨U1, U2, hU, hr, h1, h2⟩ := insIn_seg A x k V (u :: T) hV hsV (fun v hv => hc v (by simp [hv]))
      refine ⟨U1, U2 ++ [u], by rw [hU]; simp, by rw [hr]; simp, h1, fun v hv => ?_⟩
      rw [List.mem_append] at hv
      rcases hv with hv | hv
      · exact h2 v hv
      · simp only [List.mem_singleton] at hv
        subst hv
        exact (hc v (by simp)).1 h
    · rw [if_neg (fun hh => h hh.2)]
      have hu : lt u x := (hc u (by simp)).2 h
      refine ⟨V ++ [u], [], by simp, by simp, fun v hv => ?_, by simp⟩
      rw [List.mem_append] at hv
      rcases hv with hv | hv
      · exact tr _ _ _ ((List.pairwise_append.1 hs).2.2 v hv u (by simp)) hu
      · simp only [List.mem_singleton] at hv
        subst hv
        exact hu

theorem insOut_seg (A B : List Int) : ∀ (S U : List Int), U.Pairwise lt → (∀ u ∈ U, ∀ s ∈ S, Cmp cf lt u s) → S.Pairwise (Cmp cf lt) →
    ∃ M, insOut cf A.length S.length (A.length + U.length) (A ++ U ++ S ++ B) = A ++ M ++ B ∧ M.Perm (U ++ S) ∧ M.Pairwise lt
  | [], U, hU, _, _ => ⟨U, by simp [insOut], by simp, hU⟩
  | s :: S, U, hU, hc, hS => by
    rw [List.length_cons, insOut]
    obtain ⟨U1, U2, e, hr, h1, h2⟩ := insIn_seg tr A s U.length U (S ++ B) rfl hU (fun u hu => hc u hu s (by simp))
    have e2 : A ++ U ++ s :: S ++ B = A ++ U ++ s :: (S ++ B) := by simp
    rw [e2, hr]
    have hU' : (U1 ++ s :: U2).Pairwise lt := by
      rw [e] at hU
      rw [List.pairwise_append] at hU ⊢
      refine ⟨hU.1, List.pairwise_cons.2 ⟨h2, hU.2.1⟩, fun a ha b hb => ?_⟩
      rw [List.mem_cons] at hb
      rcases hb with rfl | hb
      · exact h1 a ha
      · exact hU.2.2 a ha b hb
    have hp : (U1 ++ s :: U2).Perm (U ++ [s]) := by
      rw [e, List.append_assoc]
      exact (List.perm_append_left_iff U1).2 (List.perm_append_comm (l₁ := [s]) (l₂ := U2))
    obtain ⟨M, hm, hmp, hms⟩ := insOut_seg A B S (U1 ++ s :: U2) hU' (fun u hu v hv => by
      have := hp.mem_iff.1 hu
      rw [List.mem_append, List.mem_singleton] at this
      rcases this with h | rfl
      · exact hc u h v (by simp [hv])
      · exact (List.pairwise_cons.1 hS).1 v hv) (List.pairwise_cons.1 hS).2
    refine ⟨M, ?_, ?_, hms⟩
    · rw [← hm, hp.length_eq]
      simp [Nat.add_assoc]
    · refine hmp.trans ?_
      refine (hp.append_right S).trans ?_
      simp

theorem ins_seg (A S B : List Int) (hS : S.Pairwise (Cmp cf lt)) : ∃ M, ins cf A.length (A.length + S.length) (A ++ S ++ B) = A ++ M ++ B ∧ M.Perm S ∧ M.Pairwise lt := by
  cases S with
  | nil => exact ⟨[], by simp [ins, insOut], List.Perm.refl _, List.Pairwise.nil⟩
  | cons s S =>
    obtain ⟨M, hm, hp, hs⟩ := insOut_seg tr A B S [s] (by simp) (fun u hu v hv => by
      rw [List.mem_singleton] at hu
      subst hu
      exact (List.pairwise_cons.1 hS).1 v hv) (List.pairwise_cons.1 hS).2
    refine ⟨M, ?_, hp, hs⟩
    rw [← hm, ins]
    have e : A.length + (s :: S).length - (A.length + 1) = S.length := by simp; omega
    rw [e]
    simp
end
end Go.Proofs.Ytfinbkpmkgpffaa
