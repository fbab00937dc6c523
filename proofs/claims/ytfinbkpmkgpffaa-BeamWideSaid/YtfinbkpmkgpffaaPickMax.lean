/- The greatest number's place, the program's and the document's. Conditions: the slices read as the lists. -/
import Derived.Test.YtfinbkpmkgpffaaPickWC
namespace Go.Proofs.Ytfinbkpmkgpffaa
open Go.RowKit

def maxV (xs : List Int) : Int := if xs.length = 0 then -1 else (order xs).getD 0 0
theorem maxIs_eq {xs : List Int} {r : Int} (h : MaxIs xs xs.length r) : r = maxV xs := by
  unfold maxV
  split
  · rename_i h0
    rcases h with ⟨_, rfl⟩ | ⟨m, _, hm, _⟩
    · rfl
    · omega
  · exact order_max h (by omega)

theorem maxP_any {w : World} {B : Nat} {v : Value} {xs : List Int} (hx : RdI w B .i64 v xs) : Calls Try.prog 20 #[v] w (IntPost w (maxV xs)) := by
  refine (max_any hx).mono ?_
  rintro e w' ⟨r, rfl, hr, n, rfl⟩
  exact ⟨by rw [maxIs_eq hr], ((Upd.refl (fun _ => False) w).drewN n).toBelow (Nat.le_refl _) (fun _ h => h.elim)⟩
def Top1Post (w : World) (m : Int) (e : Ending) (w' : World) : Prop := ∃ b o c, e = .returned (.slice (some ⟨b, o, none⟩) 1 c) ∧ w'.cell? ⟨b, o, none⟩ = some (.int .i64 m) ∧ Below w.heap.size w w'
theorem top1_of {w w' : World} {m : Int} {e : Ending} (h : TopPost w [m] e w') : Top1Post w m e w' := by
  obtain ⟨v, rfl, hR, hB⟩ := h
  obtain ⟨A1, c1, rfl, _, _, h3⟩ := hR.form
  obtain ⟨b1, o1, rfl, _, _, c2⟩ := h3 0 (Nat.succ_pos 0)
  exact ⟨b1, o1, c1, rfl, c2, hB⟩

set_option maxHeartbeats 800000 in
theorem rmax_any {w : World} {B : Nat} {v : Value} {xs : List Int} (hx : RdI w B .i64 v xs) (hn : xs.length ≤ 4294967296) : Calls Try.prog 21 #[v] w (IntPost w (maxV xs)) := by
  obtain ⟨A, c, hv, hc, hm, hcx⟩ := hx.form
  have hT := rtop_any hx hn 1
  clear hcx hm hc hx
  subst hv
  by_cases h0 : xs.length = 0
  · have hr : maxV xs = -1 := by rw [maxV, if_pos h0]
    rw [hr, h0]
    clear hT
    go_enter Try.func21, Try.ntmps21
    go_wp2_with fail
    go_ret
    exact ⟨rfl, Below.refl _ _⟩
  · have hcl : clamp 1 xs.length = 1 := by unfold clamp; omega
    have hl : (order xs).length = xs.length := order_length xs
    have ht : (order xs).take 1 = [maxV xs] := by
      rw [maxV, if_neg h0]
      cases ho : order xs with
      | nil => rw [ho] at hl; simp at hl; omega
      | cons x r => rfl
    rw [hcl, ht] at hT
    have HT := hid_ (hT.mono (fun _ _ h => top1_of h))
    have hz : ((xs.length : Int) == 0) = false := by rw [beq_eq_false_iff_ne]; omega
    have hz2 : ¬ (xs.length : Int) = 0 := by omega
    clear hT hcl hl ht h0
    generalize maxV xs = mv at *
    go_enter Try.func21, Try.ntmps21
    go_wp2_with ((go_at_call 24); (refine HT.out.mono ?_); (rintro e w1 ⟨b1, o1, c1, rfl, c2, hB1⟩); (have HB1 := hid_ hB1); (clear hB1))
    go_ret
    exact ⟨rfl, HB1.out⟩

end Go.Proofs.Ytfinbkpmkgpffaa
