/- Beams, as plain data: what of any beams and rows of scores the best with a token more are. No condition. -/
import Derived.Test.YtfinbkpmkgpffaaNumLaw
import Derived.Test.YtfinbkpmkgpffaaPickLaw
namespace Go.Proofs.Ytfinbkpmkgpffaa
open Go.RowKit

structure Bm where
  tokens : List Int
  score : Int
  done : Bool
deriving DecidableEq
def topV (row : List Int) : Int := (row.map clampV).foldl max (-2147483648)
def grownAt (b : Bm) (row : List Int) (length stop : Int) (i : Nat) : Bm :=
  { tokens := b.tokens ++ [(i : Int)], score := clampV (clampV b.score + clampV (clampV (row.getD i 0) - topV row)), done := decide ((i : Int) = stop) || decide (length ≤ ((b.tokens.length + 1 : Nat) : Int)) }
def grownV (b : Bm) (row : List Int) (length stop : Int) : List Bm := (List.range row.length).map (grownAt b row length stop)
/-- how many of the first i are not done -/
def liveTo (L : List Bm) (i : Nat) : Nat := ((L.take i).filter (fun b => !b.done)).length
def candOf (L : List Bm) (R : List (List Int)) (length stop : Int) (i : Nat) : List Bm :=
  if (L.getD i ⟨[], 0, false⟩).done then [L.getD i ⟨[], 0, false⟩] else grownV (L.getD i ⟨[], 0, false⟩) (R.getD (liveTo L i) []) length stop
def candTo (L : List Bm) (R : List (List Int)) (length stop : Int) : Nat → List (Bm × Int)
  | 0 => []
  | i + 1 => candTo L R length stop i ++ (candOf L R length stop i).map (fun b => (b, (i : Int)))
def candV (L : List Bm) (R : List (List Int)) (length stop : Int) : List (Bm × Int) := candTo L R length stop L.length
def fitV (L : List Bm) (R : List (List Int)) : Bool := decide (0 < L.length) && decide (liveTo L L.length = R.length) && R.all (fun r => decide (0 < r.length))
def growE (L : List Bm) (R : List (List Int)) (width : Int) : Int := if width < 1 ∨ 4 < width then 20 else if fitV L R = false then 21 else 0
def scoresOf (C : List (Bm × Int)) : List Int := C.map (·.1.score)
def bestOf (C : List (Bm × Int)) (width : Int) : List Int := (order (scoresOf C)).take (clamp width C.length)
def pickC (C : List (Bm × Int)) (i : Int) : Bm × Int := C.getD i.toNat (⟨[], 0, false⟩, 0)
def growB (L : List Bm) (R : List (List Int)) (width length stop : Int) : List Bm := if growE L R width = 0 then (bestOf (candV L R length stop) width).map (fun i => (pickC (candV L R length stop) i).1) else []
def growF (L : List Bm) (R : List (List Int)) (width length stop : Int) : List Int := if growE L R width = 0 then (bestOf (candV L R length stop) width).map (fun i => (pickC (candV L R length stop) i).2) else []
def clampP (p : Int) : Int := max (min p 64) 0
def finalV (b : Bm) (p : Int) : Int := divV b.score (65536 + 4096 * clampP p * (min b.tokens.length 1000 : Nat))
def finalsV (L : List Bm) (p : Int) : List Int := L.map (fun b => finalV b p)

theorem take_snoc_bm {α : Type} (l : List α) {k : Nat} {x : α} (h : l[k]? = some x) : l.take (k + 1) = l.take k ++ [x] := by
  rw [List.take_add_one, h]
  rfl
theorem liveTo_zero (L : List Bm) : liveTo L 0 = 0 := rfl
theorem liveTo_succ {L : List Bm} {i : Nat} {b : Bm} (h : L[i]? = some b) : liveTo L (i + 1) = liveTo L i + (if b.done then 0 else 1) := by
  unfold liveTo
  rw [take_snoc_bm L h, List.filter_append, List.length_append]
  cases hb : b.done <;> simp [hb]
theorem liveTo_le (L : List Bm) (i : Nat) : liveTo L i ≤ i := by
  unfold liveTo
  exact Nat.le_trans (List.length_filter_le _ _) (by rw [List.length_take]; omega)
theorem liveTo_mono (L : List Bm) {i j : Nat} (h : i ≤ j) : liveTo L i ≤ liveTo L j := by
  unfold liveTo
  have e : L.take i = (L.take j).take i := by rw [List.take_take, Nat.min_eq_left h]
  rw [e]
  exact ((List.take_sublist i (L.take j)).filter _).length_le
theorem liveTo_lt {L : List Bm} {i : Nat} {b : Bm} (h : L[i]? = some b) (hb : b.done = false) : liveTo L i < liveTo L L.length := by
  have h1 := liveTo_succ h
  rw [hb] at h1
  have hi : i + 1 ≤ L.length := (List.getElem?_eq_some_iff.1 h).1
  have h2 := liveTo_mono L hi
  simp at h1
  omega
theorem topV_bound : ∀ (l : List Int) (a : Int), a ≤ l.foldl max a ∧ ∀ x ∈ l, x ≤ l.foldl max a
  | [], a => ⟨Int.le_refl _, fun x hx => by cases hx⟩
  | y :: l, a => by
    obtain ⟨h1, h2⟩ := topV_bound l (max a y)
    refine ⟨by show a ≤ l.foldl max (max a y); omega, fun x hx => ?_⟩
    show x ≤ l.foldl max (max a y)
    rcases List.mem_cons.1 hx with rfl | h
    · omega
    · exact h2 x h
theorem topV_take {row : List Int} {k : Nat} {x : Int} (h : row[k]? = some x) : topV (row.take (k + 1)) = max (topV (row.take k)) (clampV x) := by
  unfold topV
  rw [take_snoc_bm row h, List.map_append, List.foldl_append]
  rfl
theorem topV_range : ∀ (l : List Int) (a : Int), -2147483648 ≤ a → a ≤ 2147483647 → -2147483648 ≤ (l.map clampV).foldl max a ∧ (l.map clampV).foldl max a ≤ 2147483647
  | [], a, h1, h2 => ⟨h1, h2⟩
  | y :: l, a, h1, h2 => by
    have hy := clampV_range y
    exact topV_range l (max a (clampV y)) (by omega) (by omega)
theorem topV_in (row : List Int) : -2147483648 ≤ topV row ∧ topV row ≤ 2147483647 := topV_range row _ (by omega) (by omega)
/-- the program's: the greatest of a row, clamped -/
def maxTo (row : List Int) : Nat → Int
  | 0 => row.getD 0 0
  | k + 1 => max (maxTo row k) (row.getD (k + 1) 0)
theorem clampV_max (a b : Int) : clampV (max a b) = max (clampV a) (clampV b) := by unfold clampV; omega
theorem maxTo_top (row : List Int) : ∀ k, k < row.length → clampV (maxTo row k) = topV (row.take (k + 1))
  | 0, h => by
    rw [topV_take (k := 0) (x := row[0]) (List.getElem?_eq_getElem h)]
    have e : maxTo row 0 = row[0] := by unfold maxTo; rw [List.getD_eq_getElem?_getD, List.getElem?_eq_getElem h]; rfl
    have := clampV_range row[0]
    rw [e]
    show clampV row[0] = max (-2147483648) (clampV row[0])
    omega
  | k + 1, h => by
    rw [topV_take (k := k + 1) (x := row[k + 1]) (List.getElem?_eq_getElem h), ← maxTo_top row k (by omega)]
    have e : row.getD (k + 1) 0 = row[k + 1] := by rw [List.getD_eq_getElem?_getD, List.getElem?_eq_getElem h]; rfl
    rw [maxTo, clampV_max, e]
theorem max_top {row : List Int} (h : 0 < row.length) : clampV (maxTo row (row.length - 1)) = topV row := by
  rw [maxTo_top row _ (by omega), show row.length - 1 + 1 = row.length by omega, List.take_length]
theorem grownV_length (b : Bm) (row : List Int) (length stop : Int) : (grownV b row length stop).length = row.length := by simp [grownV]
theorem candTo_length_le (L : List Bm) (R : List (List Int)) (length stop : Int) : ∀ i, i ≤ L.length → (candTo L R length stop i).length ≤ i + ((R.take (liveTo L i)).map List.length).sum
  | 0, _ => by simp [candTo]
  | i + 1, h => by
    have ih := candTo_length_le L R length stop i (by omega)
    have hb := List.getElem?_eq_getElem (show i < L.length by omega)
    have hs := liveTo_succ hb
    have hg : L.getD i ⟨[], 0, false⟩ = L[i] := by rw [List.getD_eq_getElem?_getD, hb]; rfl
    rw [candTo, List.length_append, List.length_map, candOf, hg]
    by_cases hd : L[i].done = true
    · rw [if_pos hd]
      rw [hd] at hs
      simp only [if_true, Nat.add_zero] at hs
      rw [hs, List.length_singleton]
      omega
    · rw [if_neg hd, grownV_length]
      rw [if_neg hd] at hs
      rw [hs]
      rcases Nat.lt_or_ge (liveTo L i) R.length with h1 | h1
      · rw [take_snoc_bm R (List.getElem?_eq_getElem h1), List.map_append, List.sum_append, List.getD_eq_getElem?_getD, List.getElem?_eq_getElem h1]
        have e2 : ([R[liveTo L i]].map List.length).sum = R[liveTo L i].length := by simp
        rw [e2]
        show _ + (R[liveTo L i]).length ≤ _
        omega
      · rw [List.getD_eq_getElem?_getD, List.getElem?_eq_none h1]
        rw [List.take_of_length_le h1] at ih
        rw [List.take_of_length_le (by omega)]
        simp
        omega
theorem pickC_mem {C : List (Bm × Int)} {i : Int} (h0 : 0 ≤ i) (h1 : i < (C.length : Int)) : pickC C i ∈ C := by
  unfold pickC
  rw [List.getD_eq_getElem?_getD, List.getElem?_eq_getElem (by omega)]
  exact List.getElem_mem _
theorem scoresOf_length (C : List (Bm × Int)) : (scoresOf C).length = C.length := by simp [scoresOf]
theorem bestOf_range {C : List (Bm × Int)} {width : Int} {i : Int} (h : i ∈ bestOf C width) : 0 ≤ i ∧ i < (C.length : Int) := by
  have := mem_order.1 (List.mem_of_mem_take h)
  rw [scoresOf_length] at this
  exact this
end Go.Proofs.Ytfinbkpmkgpffaa
