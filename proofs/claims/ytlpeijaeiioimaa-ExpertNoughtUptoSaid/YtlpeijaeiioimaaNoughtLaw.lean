/- Networks whose second matrices are nought make nought: the plain law. No program. -/
import Derived.Test.YtlpeijaeiioimaaMixLaw
namespace Go.Proofs.Ytlpeijaeiioimaa
open Go.RowKit

def AllZ (l : List Int) : Prop := ∀ x ∈ l, x = 0
theorem getD_z {l : List Int} (h : AllZ l) (k : Nat) : l.getD k 0 = 0 := by
  rw [List.getD_eq_getElem?_getD]
  rcases Nat.lt_or_ge k l.length with h1 | h1
  · rw [List.getElem?_eq_getElem h1]
    exact h _ (List.getElem_mem h1)
  · rw [List.getElem?_eq_none h1]
    rfl
theorem sumTo_z {ws : List Int} (h : AllZ ws) (xs : List Int) : ∀ k, sumTo ws xs k = 0
  | 0 => rfl
  | k + 1 => by
    rw [sumTo, sumTo_z h xs k, getD_z h k, show clampV 0 = 0 from by decide, Int.zero_mul]
    decide
theorem dotV_z {ws : List Int} (h : AllZ ws) (xs : List Int) : dotV ws xs = 0 := by
  rw [dotV, sumV, sumTo_z h]
  decide
theorem matL_z {ws : List Int} (h : AllZ ws) (xs : List Int) (m : Nat) : AllZ (matL ws xs m) := by
  intro x hx
  obtain ⟨i, _, rfl⟩ := List.mem_map.1 hx
  exact dotV_z (fun y hy => h y (List.mem_of_mem_drop (List.mem_of_mem_take hy))) xs
theorem oneV_z {up down xs y : List Int} {hidden : Int} (hd : AllZ down) (h : oneV up down hidden xs = some y) : AllZ y := by
  unfold oneV at h
  split at h
  · injection h with h
    rw [← h]
    exact matL_z hd _ _
  · cases h
theorem mixAdd_z {p : Int} : ∀ {s y : List Int}, AllZ s → AllZ y → AllZ (mixAdd p s y)
  | [], _, _, _ => fun x hx => by simp [mixAdd] at hx
  | _ :: _, [], _, _ => fun x hx => by simp [mixAdd] at hx
  | a :: s, b :: y, hs, hy => fun x hx => by
    rcases List.mem_cons.1 (show x ∈ addV a (wmul p b) :: mixAdd p s y from hx) with h | h
    · rw [h, hs a (List.mem_cons_self ..), hy b (List.mem_cons_self ..), wmul, Int.mul_zero]
      decide
    · exact mixAdd_z (fun z hz => hs z (List.mem_cons_of_mem _ hz)) (fun z hz => hy z (List.mem_cons_of_mem _ hz)) x h
theorem mixTo_z {U D : List (List Int)} {hidden : Int} {xs ch sh : List Int} (hD : ∀ j, AllZ (D.getD j [])) : ∀ i, mixAll U D hidden xs ch i → AllZ (mixTo U D hidden xs ch sh i)
  | 0, _ => fun x hx => List.eq_of_mem_replicate hx
  | i + 1, h => by
    obtain ⟨y, hy⟩ := Option.isSome_iff_exists.1 (h i (by omega))
    rw [mixTo, hy, Option.getD_some]
    exact mixAdd_z (mixTo_z hD i (fun j hj => h j (by omega))) (oneV_z (hD _) hy)
theorem mixL_z {router xs : List Int} {U D : List (List Int)} {hidden k : Int} (hD : ∀ j, AllZ (D.getD j [])) (hE : mixE router U D hidden k xs = 0) :
    AllZ (mixL router U D hidden k xs) ∧ (mixL router U D hidden k xs).length = xs.length := by
  unfold mixE at hE
  split at hE
  · cases hE
  · split at hE
    · rename_i h1
      split at hE
      · rename_i h2
        obtain ⟨y, hy⟩ := Option.isSome_iff_exists.1 h2
        rw [mixL, if_pos h1, hy, Option.getD_some]
        exact ⟨oneV_z (hD _) hy, mixOne_length hy⟩
      · cases hE
    · rename_i h1
      split at hE
      · rename_i h2
        exact absurd hE h2
      · split at hE
        · rename_i h3
          rw [mixL, if_neg h1]
          refine ⟨fun x hx => ?_, by rw [List.length_map, mixTo_length _ h3]⟩
          obtain ⟨a, ha, rfl⟩ := List.mem_map.1 hx
          rw [mixTo_z hD _ h3 a ha]
          decide
        · cases hE
def zerosOf (D : List (List Int)) : List (List Int) := D.map (fun d => List.replicate d.length 0)
theorem zerosOf_length (D : List (List Int)) : (zerosOf D).length = D.length := by simp [zerosOf]
theorem zerosOf_at (D : List (List Int)) {i : Nat} (hi : i < D.length) : (zerosOf D).getD i [] = List.replicate (D.getD i []).length 0 := by
  rw [zerosOf, List.getD_eq_getElem?_getD, List.getD_eq_getElem?_getD, List.getElem?_map, List.getElem?_eq_getElem hi]
  rfl
theorem zerosOf_z (D : List (List Int)) (j : Nat) : AllZ ((zerosOf D).getD j []) := by
  rcases Nat.lt_or_ge j D.length with h | h
  · rw [zerosOf_at D h]
    exact fun x hx => List.eq_of_mem_replicate hx
  · rw [List.getD_eq_getElem?_getD, List.getElem?_eq_none (by rw [zerosOf_length]; exact h)]
    exact fun x hx => by cases hx
end Go.Proofs.Ytlpeijaeiioimaa
