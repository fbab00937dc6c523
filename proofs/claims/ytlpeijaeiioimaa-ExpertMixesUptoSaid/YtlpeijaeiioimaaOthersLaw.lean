/- Networks that are not chosen change nothing: the plain law. No program. -/
import Derived.Test.YtlpeijaeiioimaaMixLaw
namespace Go.Proofs.Ytlpeijaeiioimaa
open Go.RowKit

/-- is j among the first q of the chosen -/
def inTo (ch : List Int) (j : Nat) : Nat → Bool
  | 0 => false
  | q + 1 => inTo ch j q || (ch.getD q 0 == (j : Int))
theorem inTo_of {ch : List Int} {j t : Nat} (ht : ch.getD t 0 = (j : Int)) : ∀ q, t < q → inTo ch j q = true
  | 0, h => by omega
  | q + 1, h => by
    rw [inTo, Bool.or_eq_true]
    by_cases h1 : t = q
    · subst h1
      exact .inr (beq_iff_eq.2 ht)
    · exact .inl (inTo_of ht q (by omega))
/-- the first i of the rows, those that are not chosen replaced -/
def replR (ch : List Int) (q : Nat) (wl : List Int) (U : List (List Int)) (i : Nat) : List (List Int) :=
  (List.range U.length).map (fun j => if j < i ∧ inTo ch j q = false then wl else U.getD j [])
theorem replR_length (ch : List Int) (q : Nat) (wl : List Int) (U : List (List Int)) (i : Nat) : (replR ch q wl U i).length = U.length := by simp [replR]
theorem replR_at {ch : List Int} {q : Nat} {wl : List Int} {U : List (List Int)} {i j : Nat} (hj : j < U.length) : (replR ch q wl U i).getD j [] = if j < i ∧ inTo ch j q = false then wl else U.getD j [] := by
  rw [replR, List.getD_eq_getElem?_getD, List.getElem?_map, List.getElem?_range hj]
  rfl
theorem replR_skip {ch : List Int} {q : Nat} {wl : List Int} {U : List (List Int)} {i : Nat} (h : inTo ch i q = true) : replR ch q wl U (i + 1) = replR ch q wl U i := by
  unfold replR
  refine List.map_congr_left (fun j _ => ?_)
  by_cases h1 : j < i
  · simp only [h1, show j < i + 1 by omega]
  · by_cases h2 : j = i
    · subst h2
      rw [if_neg (by rw [h]; simp), if_neg (by omega)]
    · rw [if_neg (by omega), if_neg (by omega)]
theorem replR_chosen {ch : List Int} {q : Nat} {wl : List Int} {U : List (List Int)} {t z : Nat} (ht : t < q) (hz : ch.getD t 0 = (z : Int)) (hzu : z < U.length) : (replR ch q wl U U.length).getD z [] = U.getD z [] := by
  rw [replR_at hzu, inTo_of hz q ht, if_neg (by simp)]
theorem mixOne_same {U D U' D' : List (List Int)} {hidden : Int} {xs : List Int} {z : Int} (h1 : U'.getD z.toNat [] = U.getD z.toNat []) (h2 : D'.getD z.toNat [] = D.getD z.toNat []) : mixOne U' D' hidden xs z = mixOne U D hidden xs z := by
  rw [mixOne, h1, h2]
  rfl
theorem mixTo_same {U D U' D' : List (List Int)} {hidden : Int} {xs ch sh : List Int} : ∀ q, (∀ t, t < q → mixOne U' D' hidden xs (ch.getD t 0) = mixOne U D hidden xs (ch.getD t 0)) → mixTo U' D' hidden xs ch sh q = mixTo U D hidden xs ch sh q
  | 0, _ => rfl
  | q + 1, h => by rw [mixTo, mixTo, h q (by omega), mixTo_same q (fun t ht => h t (by omega))]
theorem mix_others {router xs : List Int} {U D U' D' : List (List Int)} {hidden k : Int} (h2 : 2 ≤ U.length) (hl : U'.length = U.length) (hl2 : D'.length = D.length)
    (h : ∀ t, t < k.toNat → mixOne U' D' hidden xs ((routeC router xs U.length k).getD t 0) = mixOne U D hidden xs ((routeC router xs U.length k).getD t 0)) :
    mixE router U' D' hidden k xs = mixE router U D hidden k xs ∧ mixL router U' D' hidden k xs = mixL router U D hidden k xs := by
  have hall : mixAll U' D' hidden xs (routeC router xs U.length k) k.toNat ↔ mixAll U D hidden xs (routeC router xs U.length k) k.toNat := by
    unfold mixAll
    constructor <;> intro hh i hi
    · rw [← h i hi]; exact hh i hi
    · rw [h i hi]; exact hh i hi
  have h1 : ¬ U.length = 1 := by omega
  refine ⟨?_, ?_⟩
  · rw [mixE, mixE, hl, hl2]
    simp only [if_neg h1, hall]
  · rw [mixL, mixL, hl, if_neg h1, if_neg h1, mixTo_same _ h]
end Go.Proofs.Ytlpeijaeiioimaa
