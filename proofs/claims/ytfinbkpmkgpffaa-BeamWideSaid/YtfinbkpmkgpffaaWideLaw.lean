/- The best ones of a lesser width are the first of a greater width; in plain lists. No condition. -/
import Derived.Test.YtfinbkpmkgpffaaBeamLaw
namespace Go.Proofs.Ytfinbkpmkgpffaa
open Go.RowKit

theorem growE_wide (L : List Bm) (R : List (List Int)) {width : Int} (h1 : 1 ≤ width) (h3 : width ≤ 3) : growE L R (width + 1) = growE L R width := by
  unfold growE
  rw [if_neg (show ¬ (width + 1 < 1 ∨ 4 < width + 1) by omega), if_neg (show ¬ (width < 1 ∨ 4 < width) by omega)]
theorem bestOf_wide (C : List (Bm × Int)) {width : Int} (h1 : 1 ≤ width) : bestOf C width = (bestOf C (width + 1)).take (bestOf C width).length := by
  unfold bestOf
  rw [List.length_take, List.take_take]
  have hc : clamp width C.length ≤ clamp (width + 1) C.length := by unfold clamp; omega
  rcases Nat.le_total (clamp width C.length) (order (scoresOf C)).length with h | h
  · rw [Nat.min_eq_left h, Nat.min_eq_left hc]
  · rw [Nat.min_eq_right h]
    rw [List.take_of_length_le h, List.take_of_length_le (by omega)]
theorem bestOf_len (C : List (Bm × Int)) {width : Int} : (bestOf C width).length ≤ (bestOf C (width + 1)).length := by
  unfold bestOf
  rw [List.length_take, List.length_take]
  have hc : clamp width C.length ≤ clamp (width + 1) C.length := by unfold clamp; omega
  omega
section
variable (L : List Bm) (R : List (List Int)) (width length stop : Int)
theorem grow_lens : (growF L R width length stop).length = (growB L R width length stop).length := by
  unfold growF growB
  split
  · rw [List.length_map, List.length_map]
  · rfl
theorem growB_wide (h1 : 1 ≤ width) (h3 : width ≤ 3) : growB L R width length stop = (growB L R (width + 1) length stop).take (growB L R width length stop).length := by
  unfold growB
  rw [growE_wide L R h1 h3]
  split
  · rw [List.length_map, ← List.map_take, ← bestOf_wide _ h1]
  · rfl
theorem growF_wide (h1 : 1 ≤ width) (h3 : width ≤ 3) : growF L R width length stop = (growF L R (width + 1) length stop).take (growB L R width length stop).length := by
  rw [← grow_lens]
  unfold growF
  rw [growE_wide L R h1 h3]
  split
  · rw [List.length_map, ← List.map_take, ← bestOf_wide _ h1]
  · rfl
theorem growB_more (h1 : 1 ≤ width) (h3 : width ≤ 3) : (growB L R width length stop).length ≤ (growB L R (width + 1) length stop).length := by
  unfold growB
  rw [growE_wide L R h1 h3]
  split
  · rw [List.length_map, List.length_map]
    exact bestOf_len _
  · exact Nat.le_refl _
end
end Go.Proofs.Ytfinbkpmkgpffaa
