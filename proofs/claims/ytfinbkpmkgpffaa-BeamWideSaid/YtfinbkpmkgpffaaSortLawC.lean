/- The plain law of the stable sort: what it computes is a permutation of the row, in order. Conditions: each two of the numbers, as they stand in the row, are compared as the order says; the order is transitive, and no number is ahead of itself. -/
import Derived.Test.YtfinbkpmkgpffaaSortLawB
namespace Go.Proofs.Ytfinbkpmkgpffaa
open Go.RowKit

section
variable {cf : Int → Int → Int} {lt : Int → Int → Prop} (tr : ∀ x y z, lt x y → lt y z → lt x z) (irr : ∀ x, ¬ lt x x)
include tr irr

theorem symM_seg : ∀ (f : Nat) (A L R B : List Int) {d : List Int} {a m b : Nat}, d = A ++ L ++ R ++ B → a = A.length → m = a + L.length → b = m + R.length → 0 < L.length → 0 < R.length → b - a ≤ f → L.Pairwise lt → R.Pairwise lt → (∀ x ∈ L, ∀ y ∈ R, Cmp cf lt x y) →
    ∃ M, symM cf f a m b d = A ++ M ++ B ∧ M.Perm (L ++ R) ∧ M.Pairwise lt
  | 0, A, L, R, B, d, a, m, b, hd, ha, hm, hb, hL0, hR0, hf, hL, hR, hc => by omega
  | f + 1, A, L, R, B, d, a, m, b, hd, ha, hm, hb, hL0, hR0, hf, hL, hR, hc => by
    rw [symM]
    by_cases h1 : m - a = 1
    · rw [if_pos h1]
      obtain ⟨x, rfl⟩ := List.length_eq_one_iff.1 (show L.length = 1 by omega)
      exact symL_law tr irr A R B x hR (fun y hy => hc x (by simp) y hy) (by rw [hd]; simp) ha (by simpa using hm) hb
    by_cases h2 : b - m = 1
    · rw [if_neg h1, if_pos h2]
      obtain ⟨y, rfl⟩ := List.length_eq_one_iff.1 (show R.length = 1 by omega)
      exact symR_law tr irr A L B y hL (fun x hx => hc x hx y (by simp)) (by rw [hd]; simp) ha hm
    rw [if_neg h1, if_neg h2]
    obtain ⟨k, l, hst, hk, hl, hkl, q1, q2⟩ := stM_law tr irr A L R B hL hR hc hd ha hm hb hL0 hR0
    obtain ⟨mid, hmid⟩ : ∃ mid, mid = (a + b) / 2 := ⟨_, rfl⟩
    rw [← hmid] at hkl ⊢
    rw [hst]
    dsimp only
    obtain ⟨L1, hL1⟩ : ∃ L1, L1 = L.take k := ⟨_, rfl⟩
    obtain ⟨L2, hL2⟩ : ∃ L2, L2 = L.drop k := ⟨_, rfl⟩
    obtain ⟨R1, hR1⟩ : ∃ R1, R1 = R.take l := ⟨_, rfl⟩
    obtain ⟨R2, hR2⟩ : ∃ R2, R2 = R.drop l := ⟨_, rfl⟩
    have eL : L = L1 ++ L2 := by rw [hL1, hL2, List.take_append_drop]
    have eR : R = R1 ++ R2 := by rw [hR1, hR2, List.take_append_drop]
    have l1 : L1.length = k := by rw [hL1, List.length_take]; omega
    have l2 : L2.length = L.length - k := by rw [hL2, List.length_drop]
    have l3 : R1.length = l := by rw [hR1, List.length_take]; omega
    have l4 : R2.length = R.length - l := by rw [hR2, List.length_drop]
    have s1 : L1.Pairwise lt := hL1 ▸ srt_take hL k
    have s2 : L2.Pairwise lt := hL2 ▸ srt_drop hL k
    have s3 : R1.Pairwise lt := hR1 ▸ srt_take hR l
    have s4 : R2.Pairwise lt := hR2 ▸ srt_drop hR l
    rw [← hL1, ← hR2] at q1
    rw [← hR1, ← hL2] at q2
    have q3 : ∀ x ∈ L1, ∀ z ∈ L2, lt x z := fun x hx z hz => by rw [eL] at hL; exact (List.pairwise_append.1 hL).2.2 x hx z hz
    have q4 : ∀ x ∈ R1, ∀ z ∈ R2, lt x z := fun x hx z hz => by rw [eR] at hR; exact (List.pairwise_append.1 hR).2.2 x hx z hz
    have c1 : ∀ x ∈ L1, ∀ y ∈ R1, Cmp cf lt x y := fun x hx y hy => hc x (by rw [eL]; simp [hx]) y (by rw [eR]; simp [hy])
    have c2 : ∀ x ∈ L2, ∀ y ∈ R2, Cmp cf lt x y := fun x hx y hy => hc x (by rw [eL]; simp [hx]) y (by rw [eR]; simp [hy])
    clear hL1 hL2 hR1 hR2 hst
    have hd1 : (if a + k < m ∧ m < mid + m - (a + k) then rot m (mid + m - (a + k) - (a + k)) (m - (a + k)) (mid + m - (a + k) - m) d else d) = A ++ L1 ++ R1 ++ L2 ++ R2 ++ B := by
      have e : d = (A ++ L1) ++ L2 ++ R1 ++ (R2 ++ B) := by rw [hd, eL, eR]; simp
      split
      · rename_i hg
        rw [e, rot_seg _ (A ++ L1) L2 R1 (R2 ++ B) (by simp; omega) (by omega) (by omega) (by omega) (by omega) (by omega)]
        simp
      · rename_i hg
        rw [e]
        rcases Nat.eq_zero_or_pos l with h | h
        · have : R1 = [] := List.length_eq_zero_iff.1 (by omega)
          subst this
          simp
        · have : L2 = [] := List.length_eq_zero_iff.1 (by omega)
          subst this
          simp
    rw [hd1]
    have hd2 : ∃ M1, (if a < a + k ∧ a + k < mid then symM cf f a (a + k) mid (A ++ L1 ++ R1 ++ L2 ++ R2 ++ B) else A ++ L1 ++ R1 ++ L2 ++ R2 ++ B) = A ++ M1 ++ (L2 ++ R2 ++ B) ∧ M1.Perm (L1 ++ R1) ∧ M1.Pairwise lt := by
      split
      · exact symM_seg f A L1 R1 (L2 ++ R2 ++ B) (by simp) ha (by omega) (by omega) (by omega) (by omega) (by omega) s1 s3 c1
      · rename_i hg
        refine ⟨L1 ++ R1, by simp, List.Perm.refl _, ?_⟩
        rcases Nat.eq_zero_or_pos l with h | h
        · have : R1 = [] := List.length_eq_zero_iff.1 (by omega)
          subst this
          simpa using s1
        · have : L1 = [] := List.length_eq_zero_iff.1 (by omega)
          subst this
          simpa using s3
    obtain ⟨M1, e1, p1, t1⟩ := hd2
    rw [e1]
    have lm : M1.length = k + l := by rw [p1.length_eq, List.length_append]; omega
    have hd3 : ∃ M2, (if mid < mid + m - (a + k) ∧ mid + m - (a + k) < b then symM cf f mid (mid + m - (a + k)) b (A ++ M1 ++ (L2 ++ R2 ++ B)) else A ++ M1 ++ (L2 ++ R2 ++ B)) = (A ++ M1) ++ M2 ++ B ∧ M2.Perm (L2 ++ R2) ∧ M2.Pairwise lt := by
      split
      · exact symM_seg f (A ++ M1) L2 R2 B (by simp) (by simp; omega) (by omega) (by omega) (by omega) (by omega) (by omega) s2 s4 c2
      · rename_i hg
        refine ⟨L2 ++ R2, by simp, List.Perm.refl _, ?_⟩
        rcases Nat.eq_zero_or_pos L2.length with h | h
        · have : L2 = [] := List.length_eq_zero_iff.1 h
          subst this
          simpa using s4
        · have : R2 = [] := List.length_eq_zero_iff.1 (by omega)
          subst this
          simpa using s2
    obtain ⟨M2, e2, p2, t2⟩ := hd3
    refine ⟨M1 ++ M2, by rw [e2]; simp, ?_, ?_⟩
    · refine (p1.append p2).trans ?_
      rw [eL, eR]
      have : (L1 ++ R1 ++ (L2 ++ R2)).Perm (L1 ++ (R1 ++ L2) ++ R2) := by simp
      refine this.trans ?_
      have h3 : (L1 ++ (R1 ++ L2) ++ R2).Perm (L1 ++ (L2 ++ R1) ++ R2) := ((List.perm_append_comm (l₁ := R1) (l₂ := L2)).append_left L1).append_right R2
      refine h3.trans ?_
      simp
    · refine List.pairwise_append.2 ⟨t1, t2, fun x hx z hz => ?_⟩
      have hx' := p1.mem_iff.1 hx
      have hz' := p2.mem_iff.1 hz
      rw [List.mem_append] at hx' hz'
      rcases hx' with hx' | hx' <;> rcases hz' with hz' | hz'
      · exact q3 x hx' z hz'
      · exact q1 x hx' z hz'
      · exact q2 x hx' z hz'
      · exact q4 x hx' z hz'

/-- rows in order, each of z numbers, the last maybe of fewer -/
def Good (lt : Int → Int → Prop) (z : Nat) : List (List Int) → Prop
  | [] => True
  | X :: r => 0 < X.length ∧ X.length ≤ z ∧ (r ≠ [] → X.length = z) ∧ X.Pairwise lt ∧ Good lt z r
def Cross (cf : Int → Int → Int) (lt : Int → Int → Prop) (bl : List (List Int)) : Prop := bl.Pairwise (fun X Y => ∀ x ∈ X, ∀ y ∈ Y, Cmp cf lt x y)

omit irr in
theorem pass1_seg {n : Nat} : ∀ (f : Nat) (A D : List Int), A.length + D.length = n → D.length + 1 ≤ f → D.Pairwise (Cmp cf lt) →
    ∃ bl, pass1 cf n f A.length (A ++ D) = A ++ bl.flatten ∧ bl.flatten.Perm D ∧ Good lt 20 bl ∧ Cross cf lt bl
  | 0, A, D, hn, hf, hD => by omega
  | f + 1, A, D, hn, hf, hD => by
    rw [pass1]
    split
    · rename_i hlt
      have h20 : (D.take 20).length = 20 := by rw [List.length_take]; omega
      have hD2 : (D.take 20 ++ D.drop 20).Pairwise (Cmp cf lt) := by rw [List.take_append_drop]; exact hD
      obtain ⟨M, hm, hp, hs⟩ := ins_seg tr A (D.take 20) (D.drop 20) (List.pairwise_append.1 hD2).1
      rw [h20, List.append_assoc, List.take_append_drop] at hm
      rw [hm]
      have hM : M.length = 20 := by rw [hp.length_eq, h20]
      have ih := pass1_seg (n := n) f (A ++ M) (D.drop 20) (by rw [List.length_append, List.length_drop]; omega) (by rw [List.length_drop]; omega) (List.pairwise_append.1 hD2).2.1
      have e : (A ++ M).length = A.length + 20 := by simp; omega
      rw [e] at ih
      obtain ⟨bl, g1, g2, g3, g4⟩ := ih
      refine ⟨M :: bl, by rw [g1]; simp, ?_, ⟨by omega, by omega, fun _ => hM, hs, g3⟩, List.pairwise_cons.2 ⟨fun Y hY x hx y hy => ?_, g4⟩⟩
      · rw [List.flatten_cons]
        have := hp.append g2
        rwa [List.take_append_drop] at this
      · exact (List.pairwise_append.1 hD2).2.2 x (hp.mem_iff.1 hx) y (g2.mem_iff.1 (List.mem_flatten.2 ⟨Y, hY, hy⟩))
    · rename_i hlt
      obtain ⟨M, hm, hp, hs⟩ := ins_seg tr A D [] hD
      rw [hn, List.append_nil, List.append_nil] at hm
      rw [hm]
      cases hD0 : D with
      | nil =>
        rw [hD0] at hp
        have : M = [] := List.perm_nil.1 hp
        subst this
        exact ⟨[], by simp, by simp, trivial, List.Pairwise.nil⟩
      | cons x r =>
        rw [← hD0]
        have h3 := hp.length_eq
        have h4 : 0 < D.length := by rw [hD0]; simp
        exact ⟨[M], by simp, by simpa using hp, ⟨by omega, by omega, fun h => absurd rfl h, hs, trivial⟩, by simp [Cross]⟩

theorem pass2_seg {n z : Nat} (hz : 0 < z) : ∀ (f : Nat) (A : List Int) (bl : List (List Int)), A.length + bl.flatten.length = n → bl.flatten.length + 1 ≤ f → Good lt z bl → Cross cf lt bl →
    ∃ bl', pass2 cf n z f A.length (A ++ bl.flatten) = A ++ bl'.flatten ∧ bl'.flatten.Perm bl.flatten ∧ Good lt (2 * z) bl' ∧ Cross cf lt bl'
  | 0, A, bl, hn, hf, hg, hc => by omega
  | f + 1, A, [], hn, hf, hg, hc => by
    simp only [List.flatten_nil, List.length_nil] at hn
    rw [pass2, if_neg (by omega), if_neg (by omega)]
    exact ⟨[], rfl, List.Perm.refl _, trivial, List.Pairwise.nil⟩
  | f + 1, A, [X], hn, hf, hg, hc => by
    obtain ⟨g1, g2, g3, g4, g5⟩ := hg
    simp only [List.flatten_cons, List.flatten_nil, List.append_nil] at hn
    rw [pass2, if_neg (by omega), if_neg (by omega)]
    exact ⟨[X], rfl, List.Perm.refl _, ⟨g1, by omega, fun h => absurd rfl h, g4, trivial⟩, by simp [Cross]⟩
  | f + 1, A, X :: Y :: r, hn, hf, hg, hc => by
    obtain ⟨g1, g2, g3, g4, k1, k2, k3, k4, k5⟩ := hg
    have hX := g3 (by simp)
    simp only [List.flatten_cons, List.length_append] at hn hf
    have hXY : ∀ x ∈ X, ∀ y ∈ Y, Cmp cf lt x y := (List.pairwise_cons.1 hc).1 Y (by simp)
    obtain ⟨M, hm, hp, hs⟩ := symM_seg tr irr n A X Y r.flatten rfl rfl rfl rfl g1 k1 (by omega) g4 k4 hXY
    have hM : M.length = X.length + Y.length := by rw [hp.length_eq, List.length_append]
    have e0 : A ++ (X :: Y :: r).flatten = A ++ X ++ Y ++ r.flatten := by simp
    rw [e0, pass2]
    have hcross : ∀ Z ∈ r, ∀ x ∈ M, ∀ y ∈ Z, Cmp cf lt x y := fun Z hZ x hx y hy => by
      have := hp.mem_iff.1 hx
      rw [List.mem_append] at this
      rcases this with h | h
      · exact (List.pairwise_cons.1 hc).1 Z (by simp [hZ]) x h y hy
      · exact (List.pairwise_cons.1 (List.pairwise_cons.1 hc).2).1 Z hZ x h y hy
    by_cases hY : Y.length = z
    · rw [if_pos (by omega)]
      have e1 : A.length + X.length = A.length + z := by omega
      have e2 : A.length + X.length + Y.length = A.length + 2 * z := by omega
      rw [e2, e1] at hm
      rw [hm]
      have ih := pass2_seg (n := n) hz f (A ++ M) r (by rw [List.length_append]; omega) (by omega) k5 (List.pairwise_cons.1 (List.pairwise_cons.1 hc).2).2
      have e3 : (A ++ M).length = A.length + 2 * z := by simp; omega
      rw [e3] at ih
      obtain ⟨bl, i1, i2, i3, i4⟩ := ih
      refine ⟨M :: bl, by rw [i1]; simp, ?_, ⟨by omega, by omega, fun _ => by omega, hs, i3⟩, List.pairwise_cons.2 ⟨fun Z hZ x hx y hy => ?_, i4⟩⟩
      · have := hp.append i2
        simpa using this
      · have hy2 := i2.mem_iff.1 (List.mem_flatten.2 ⟨Z, hZ, hy⟩)
        obtain ⟨W, hW, hyW⟩ := List.mem_flatten.1 hy2
        exact hcross W hW x hx y hyW
    · have hr : r = [] := by
        cases r with
        | nil => rfl
        | cons W r => exact absurd (k3 (by simp)) hY
      subst hr
      simp only [List.flatten_nil, List.length_nil, List.append_nil] at *
      rw [if_neg (by omega), if_pos (by omega)]
      have e1 : A.length + X.length = A.length + z := by omega
      have e2 : A.length + X.length + Y.length = n := by omega
      rw [e2, e1] at hm
      rw [hm]
      exact ⟨[M], by simp, by simpa using hp, ⟨by omega, by omega, fun h => absurd rfl h, hs, trivial⟩, by simp [Cross]⟩

theorem outer_seg {n : Nat} : ∀ (f z : Nat) (bl : List (List Int)), bl.flatten.length = n → 0 < z → n + 1 ≤ f + z → Good lt z bl → Cross cf lt bl →
    ∃ M, outer cf n f z bl.flatten = M ∧ M.Perm bl.flatten ∧ M.Pairwise lt := by
  have last : ∀ (z : Nat) (bl : List (List Int)), bl.flatten.length = n → n ≤ z → Good lt z bl → bl.flatten.Pairwise lt := fun z bl hn hz hg => by
    match bl, hg with
    | [], _ => exact List.Pairwise.nil
    | [X], hg => simpa using hg.2.2.2.1
    | X :: Y :: r, hg =>
      exfalso
      have h1 := hg.2.2.1 (by simp)
      have h2 := hg.2.2.2.2.1
      simp only [List.flatten_cons, List.length_append] at hn
      omega
  intro f
  induction f with
  | zero => intro z bl hn hz hf hg hc; exact ⟨_, rfl, List.Perm.refl _, last z bl hn (by omega) hg⟩
  | succ f ih =>
    intro z bl hn hz hf hg hc
    rw [outer]
    split
    · rename_i hlt
      have h := pass2_seg tr irr hz (n := n) (n + 1) [] bl (by simpa using hn) (by omega) hg hc
      obtain ⟨bl', e1, p1, g1, c1⟩ := h
      simp only [List.length_nil, List.nil_append] at e1
      rw [e1]
      obtain ⟨M, e2, p2, s2⟩ := ih (2 * z) bl' (by rw [p1.length_eq]; exact hn) (by omega) (by omega) g1 c1
      exact ⟨M, e2, p2.trans p1, s2⟩
    · rename_i hge
      exact ⟨_, rfl, List.Perm.refl _, last z bl hn (by omega) hg⟩

theorem stab_law {d : List Int} (hd : d.Pairwise (Cmp cf lt)) : (stab cf d).Perm d ∧ (stab cf d).Pairwise lt := by
  obtain ⟨bl, e, p, g, c⟩ := pass1_seg tr (n := d.length) (d.length + 1) [] d (by simp) (Nat.le_refl _) hd
  simp only [List.length_nil, List.nil_append] at e
  obtain ⟨M, e2, p2, s2⟩ := outer_seg tr irr (n := d.length) (d.length + 1) 20 bl (by rw [p.length_eq]) (by omega) (by omega) g c
  have : stab cf d = M := by rw [stab, e]; exact e2
  rw [this]
  exact ⟨p2.trans p, s2⟩
end
end Go.Proofs.Ytfinbkpmkgpffaa
