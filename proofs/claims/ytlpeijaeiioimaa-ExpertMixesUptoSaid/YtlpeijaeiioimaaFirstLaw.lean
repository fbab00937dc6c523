/- With one network chosen the mix is that network's row: the plain law. No program. -/
import Derived.Test.YtlpeijaeiioimaaMixLaw
namespace Go.Proofs.Ytlpeijaeiioimaa
open Go.RowKit

theorem maxV_in {xs : List Int} (h : 0 < xs.length) : 0 ≤ maxV xs ∧ maxV xs < (xs.length : Int) := by
  rw [maxV, if_neg (by omega)]
  exact order_at h
theorem chosen_one {xs : List Int} (h : 0 < xs.length) : chosenV xs 1 = [maxV xs] := by
  have hc : clamp 1 xs.length = 1 := by unfold clamp; omega
  have hl : 0 < (order xs).length := by rw [order_length]; exact h
  rw [chosenV, hc, maxV, if_neg (by omega)]
  cases ho : order xs with
  | nil => rw [ho] at hl; exact absurd hl (by simp)
  | cons a r => rfl
theorem soft_one (x : Int) : softV [x] = [65536] := by
  have h1 : topV [x] = clampV x := by simp [topV, maxTo]
  have h2 : expL [x] = [65536] := by
    show [expV (clampV x - topV [x])] = [65536]
    rw [h1, Int.sub_self]
    decide +kernel
  show (expL [x]).map (fun e => divV e (accTo (expL [x]) 1)) = [65536]
  rw [h2]
  decide +kernel
def Fits (l : List Int) : Prop := ∀ x ∈ l, -2147483648 ≤ x ∧ x ≤ 2147483647
theorem matL_fits (ws xs : List Int) (m : Nat) : Fits (matL ws xs m) := by
  intro x hx
  obtain ⟨i, _, rfl⟩ := List.mem_map.1 hx
  exact clampV_range _
theorem oneV_fits {up down xs y : List Int} {hidden : Int} (h : oneV up down hidden xs = some y) : Fits y := by
  unfold oneV at h
  split at h
  · injection h with h
    rw [← h]
    exact matL_fits _ _ _
  · cases h
theorem fin_back {y : Int} (h : -2147483648 ≤ y ∧ y ≤ 2147483647) : finV (addV 0 (wmul 65536 y)) = y := by
  have h1 : wmul 65536 y = 65536 * y := iw64 (by unfold InI64; omega)
  have h2 : addV 0 (65536 * y) = 65536 * y := by rw [addV_id (by unfold InI64; omega), Int.zero_add]
  rw [finV, h1, h2]
  have h3 : shiftV (65536 * y) 16 = y := by
    unfold shiftV
    rw [if_neg (by decide)]
    split
    · omega
    · omega
  rw [h3, clampV_id h]
theorem mix_back {y : List Int} (h : Fits y) : (mixAdd 65536 (List.replicate y.length 0) y).map finV = y := by
  induction y with
  | nil => rfl
  | cons a r ih =>
    show finV (addV 0 (wmul 65536 a)) :: (mixAdd 65536 (List.replicate r.length 0) r).map finV = a :: r
    rw [fin_back (h a (List.mem_cons_self ..)), ih (fun x hx => h x (List.mem_cons_of_mem _ hx))]
/-- what the mix answers: the row of the first of the greatest, or that its lengths do not fit -/
theorem mix_first {router xs : List Int} {U D : List (List Int)} {hidden : Int} (h2 : 2 ≤ U.length) (hd : U.length = D.length) (hm : MatOk router U.length xs) :
    mixE router U D hidden 1 xs = (if (mixOne U D hidden xs (maxV (matL router xs U.length))).isSome then 0 else 21) ∧
    ∀ y, mixOne U D hidden xs (maxV (matL router xs U.length)) = some y → mixL router U D hidden 1 xs = y := by
  have hml := matL_length router xs U.length
  have hre : routeE router xs U.length 1 = 0 := by rw [routeE, if_neg (by omega), if_pos hm]
  have hrc : routeC router xs U.length 1 = [maxV (matL router xs U.length)] := chosen_one (by rw [hml]; omega)
  have hrp : routeP router xs U.length 1 = [65536] := by
    rw [routeP, routeB, hrc]
    exact soft_one _
  have h1 : ¬ U.length = 1 := by omega
  have hall : mixAll U D hidden xs [maxV (matL router xs U.length)] (1 : Int).toNat ↔ (mixOne U D hidden xs (maxV (matL router xs U.length))).isSome = true := by
    constructor
    · intro h
      exact h 0 (by decide)
    · intro h i hi
      have : i = 0 := by have : i < 1 := hi; omega
      subst this
      exact h
  refine ⟨?_, fun y hy => ?_⟩
  · rw [mixE, if_neg (by omega), if_neg h1, if_neg (by rw [hre]; simp), hrc]
    by_cases h : (mixOne U D hidden xs (maxV (matL router xs U.length))).isSome = true
    · rw [if_pos (hall.2 h), if_pos h]
    · rw [if_neg (fun h3 => h (hall.1 h3)), if_neg h]
  · rw [mixL, if_neg h1, hrc, hrp]
    show (mixAdd 65536 (List.replicate xs.length 0) ((mixOne U D hidden xs (maxV (matL router xs U.length))).getD [])).map finV = y
    rw [hy, Option.getD_some, ← mixOne_length hy]
    exact mix_back (oneV_fits hy)
end Go.Proofs.Ytlpeijaeiioimaa
