/- The places of the greatest numbers, so many, the program's and the document's. Conditions: the slice reads as the numbers, which are no more than 2^32. -/
import Derived.Test.YtlpeijaeiioimaaPickMax
namespace Go.Proofs.Ytlpeijaeiioimaa
open Go.RowKit

def chosenV (xs : List Int) (k : Int) : List Int := (order xs).take (clamp k xs.length)
theorem chosenV_length (xs : List Int) (k : Int) : (chosenV xs k).length = clamp k xs.length := by
  rw [chosenV, List.length_take, order_length]
  unfold clamp
  omega
theorem chosenV_at {xs : List Int} {k : Int} {i : Nat} (hi : i < clamp k xs.length) : 0 ≤ (chosenV xs k).getD i 0 ∧ (chosenV xs k).getD i 0 < (xs.length : Int) := by
  have hc : clamp k xs.length ≤ xs.length := by unfold clamp; omega
  have h : (chosenV xs k).getD i 0 = (order xs).getD i 0 := by
    rw [chosenV, List.getD_eq_getElem?_getD, List.getD_eq_getElem?_getD, List.getElem?_take, if_pos hi]
  rw [h]
  exact order_at (by omega)
theorem Fresh.low {w w1 : World} {v : Value} (h : Fresh w1 v) (hs : w.heap.size ≤ w1.heap.size) : Fresh w v := fun b o n c h1 h2 => Nat.le_trans hs (h b o n c h1 h2)
theorem shapeTop {w : World} {B : Nat} {v : Value} {xs : List Int} (hx : RdI w B .i64 v xs) (hn : xs.length ≤ 4294967296) (k : Int) {m : Nat} (hm : clamp k xs.length = m) :
    Calls Try.prog 55 #[v, .int .i64 k] w (fun e w' => ∃ A c, e = .returned (.slice A m c) ∧ RdI w' w'.heap.size .i64 (.slice A m c) (chosenV xs k) ∧ Below w.heap.size w w') := by
  refine (top_any hx hn k).mono ?_
  rintro e w' ⟨v, rfl, hr, hb⟩
  obtain ⟨A, c, rfl, _⟩ := hr.form
  have hl : ((order xs).take (clamp k xs.length)).length = m := by rw [← hm]; exact chosenV_length xs k
  rw [hl] at hr ⊢
  exact ⟨A, c, rfl, hr, hb⟩
theorem shapeTopF {w : World} {B : Nat} {v : Value} {xs : List Int} (hx : RdI w B .i64 v xs) (hn : xs.length ≤ 4294967296) (k : Int) {m : Nat} (hm : clamp k xs.length = m) :
    Calls Try.prog 55 #[v, .int .i64 k] w (fun e w' => ∃ A c, e = .returned (.slice A m c) ∧ RdI w' w'.heap.size .i64 (.slice A m c) (chosenV xs k) ∧ Below w.heap.size w w' ∧ Fresh w (.slice A m c)) := by
  refine (topF_any hx hn k).mono ?_
  rintro e w' ⟨v, rfl, hr, hb, hf⟩
  obtain ⟨A, c, rfl, _⟩ := hr.form
  have hl : ((order xs).take (clamp k xs.length)).length = m := by rw [← hm]; exact chosenV_length xs k
  rw [hl] at hr hf ⊢
  exact ⟨A, c, rfl, hr, hb, hf⟩

theorem rshapeTop {w : World} {B : Nat} {v : Value} {xs : List Int} (hx : RdI w B .i64 v xs) (hn : xs.length ≤ 4294967296) (k : Int) {m : Nat} (hm : clamp k xs.length = m) :
    Calls Try.prog 57 #[v, .int .i64 k] w (fun e w' => ∃ A c, e = .returned (.slice A m c) ∧ RdI w' w'.heap.size .i64 (.slice A m c) (chosenV xs k) ∧ Below w.heap.size w w') := by
  refine (rtop_any hx hn k).mono ?_
  rintro e w' ⟨v, rfl, hr, hb⟩
  obtain ⟨A, c, rfl, _⟩ := hr.form
  have hl : ((order xs).take (clamp k xs.length)).length = m := by rw [← hm]; exact chosenV_length xs k
  rw [hl] at hr ⊢
  exact ⟨A, c, rfl, hr, hb⟩
theorem rshapeTopF {w : World} {B : Nat} {v : Value} {xs : List Int} (hx : RdI w B .i64 v xs) (hn : xs.length ≤ 4294967296) (k : Int) {m : Nat} (hm : clamp k xs.length = m) :
    Calls Try.prog 57 #[v, .int .i64 k] w (fun e w' => ∃ A c, e = .returned (.slice A m c) ∧ RdI w' w'.heap.size .i64 (.slice A m c) (chosenV xs k) ∧ Below w.heap.size w w' ∧ Fresh w (.slice A m c)) := by
  refine (rtopF_any hx hn k).mono ?_
  rintro e w' ⟨v, rfl, hr, hb, hf⟩
  obtain ⟨A, c, rfl, _⟩ := hr.form
  have hl : ((order xs).take (clamp k xs.length)).length = m := by rw [← hm]; exact chosenV_length xs k
  rw [hl] at hr hf ⊢
  exact ⟨A, c, rfl, hr, hb, hf⟩

end Go.Proofs.Ytlpeijaeiioimaa
