/- The statements' own 'works' of layer 7 walked: it returns true. No condition. -/
import Derived.Test.YtfinbkpmkgpffaaPickTellsW
namespace Go.Proofs.Ytfinbkpmkgpffaa
open Go.RowKit

theorem wk_max : maxV [3, 7, 7, 1] = 1 := by decide +kernel
theorem wk_nil : maxV [] = -1 := by decide +kernel
theorem wk_top3 : (order [3, 7, 7, 1]).take (clamp 3 4) = [1, 2, 0] := by decide +kernel
theorem wk_top0 : (order [3, 7, 7, 1]).take (clamp 0 4) = [] := by decide +kernel
theorem wk_rank : rankV [3, 7, 7, 1] 3 = 3 := by decide +kernel

theorem works_max {w : World} {v : Value} (h : RdI w w.heap.size .i64 v [3, 7, 7, 1]) : Calls Try.prog 20 #[v] w (IntPost w 1) := by
  have := maxP_any h
  rw [wk_max] at this
  exact this
theorem works_nil (w : World) : Calls Try.prog 20 #[.slice none 0 0] w (IntPost w (-1)) := by
  have := maxP_any (w := w) (B := 0) (v := .slice none 0 0) (xs := []) ⟨none, 0, rfl, Nat.le_refl _, Nat.zero_le _, fun h => absurd h (by simp)⟩
  rw [wk_nil] at this
  exact this
theorem works_top3 {w : World} {v : Value} (h : RdI w w.heap.size .i64 v [3, 7, 7, 1]) : Calls Try.prog 23 #[v, .int .i64 3] w (TopPost w [1, 2, 0]) := by
  have := top_any h (by decide) 3
  rw [show ([3, 7, 7, 1] : List Int).length = 4 from rfl, wk_top3] at this
  exact this
def Top0Post (w : World) (e : Ending) (w' : World) : Prop := ∃ A c, e = .returned (.slice A 0 c) ∧ Below w.heap.size w w'
theorem works_top0 {w : World} {v : Value} (h : RdI w w.heap.size .i64 v [3, 7, 7, 1]) : Calls Try.prog 23 #[v, .int .i64 0] w (Top0Post w) := by
  have := top_any h (by decide) 0
  rw [show ([3, 7, 7, 1] : List Int).length = 4 from rfl, wk_top0] at this
  refine this.mono ?_
  rintro e w' ⟨v, rfl, hr, hb⟩
  obtain ⟨A, c, rfl, _⟩ := hr.form
  exact ⟨A, c, rfl, hb⟩
theorem works_rank {w : World} {v : Value} (h : RdI w w.heap.size .i64 v [3, 7, 7, 1]) : Calls Try.prog 25 #[v, .int .i64 3] w (IntPost w 3) := by
  have := rank_any h (by decide) 3
  rw [wk_rank] at this
  exact this
theorem below_alloc (w : World) (o : Obj) : Below w.heap.size w (w.alloc o) := ((Upd.refl (fun _ => False) w).alloc o).toBelow (Nat.le_refl _) (fun _ h => h.elim)
theorem works_same {w : World} {v : Value} (h : RdI w w.heap.size .i64 v [1, 2, 0]) :
    Calls Try.prog 22 #[v, .slice (some ⟨w.heap.size, 0, none⟩) 3 3] (w.alloc (.cells #[.int .i64 1, .int .i64 2, .int .i64 0] 3)) (fun e w' => e = .returned (.bool true) ∧ Below w.heap.size w w') := by
  have h2 : RdI (w.alloc (.cells #[.int .i64 1, .int .i64 2, .int .i64 0] 3)) (w.alloc (.cells #[.int .i64 1, .int .i64 2, .int .i64 0] 3)).heap.size .i64 (.slice (some ⟨w.heap.size, 0, none⟩) 3 3) [1, 2, 0] :=
    rowc_rd (d := [1, 2, 0]) (k := 3) (Blk.new w 3 _) (Nat.le_refl _) (Nat.le_refl _) (by unfold maxLen; omega)
  refine (same7t (h.next (below_alloc w _)) h2).mono ?_
  rintro e w' ⟨rfl, hb⟩
  exact ⟨rfl, ((Upd.of_below (S := fun _ => False) (below_alloc w _)).below hb).toBelow (Nat.le_refl _) (fun _ h => h.elim)⟩

set_option maxRecDepth 100000 in
set_option maxHeartbeats 3200000 in
theorem works07_any (w : World) : Calls Try.prog 28 #[] w (TruePost w) := by
  have h0 : RdI (w.alloc (.cells #[.int .i64 3, .int .i64 7, .int .i64 7, .int .i64 1] 2)) (w.alloc (.cells #[.int .i64 3, .int .i64 7, .int .i64 7, .int .i64 1] 2)).heap.size .i64 (.slice (some ⟨w.heap.size, 0, none⟩) 4 4) [3, 7, 7, 1] :=
    rowc_rd (d := [3, 7, 7, 1]) (k := 4) (Blk.new w 2 _) (Nat.le_refl _) (Nat.le_refl _) (by unfold maxLen; omega)
  have HS0 : Hid (St w (.slice (some ⟨w.heap.size, 0, none⟩) 4 4) (.slice (some ⟨w.heap.size, 0, none⟩) 4 4) [3, 7, 7, 1] (w.alloc (.cells #[.int .i64 3, .int .i64 7, .int .i64 7, .int .i64 1] 2))) := ⟨h0, h0, (Upd.refl _ w).alloc _⟩
  clear h0
  go_enter Try.func28, Try.ntmps28
  go_upto_region 2 with fail
  generalize (w.alloc (.cells #[.int .i64 3, .int .i64 7, .int .i64 7, .int .i64 1] 2)) = w0 at *
  go_wp2_with (first
    | ((go_at_call 22); (refine (works_same HR.out).mono ?_); (rintro e w3 ⟨rfl, hb⟩); (have HS3 := hid_ (HS2.out.next hb)); (clear hb))
    | ((go_at_call 25); (refine (works_rank HS3.out.u).mono ?_); (rintro e w4 ⟨rfl, hb⟩); (have HS4 := hid_ (HS3.out.next hb)); (clear hb))
    | ((go_at_call 23); (refine (works_top0 HS5.out.u).mono ?_); (rintro e w6 ⟨A6, c6, rfl, hb⟩); (have HS6 := hid_ (HS5.out.next hb)); (clear hb))
    | ((go_at_call 20); (have h9 := HS4.out); (clear h9); (refine (works_nil _).mono ?_); (rintro e w5 ⟨rfl, hb⟩); (have HS5 := hid_ (HS4.out.next hb)); (clear hb))
    | ((go_at_call 20); (refine (works_max HS0.out.u).mono ?_); (rintro e w1 ⟨rfl, hb⟩); (have HS1 := hid_ (HS0.out.next hb)); (clear hb))
    | ((go_at_call 23); (refine (works_top3 HS1.out.u).mono ?_); (rintro e w2 ⟨v2, rfl, hr, hb⟩); (have HS2 := hid_ (HS1.out.next hb)); (have HR := hid_ hr); (clear hb hr)))
  go_ret
  exact ⟨rfl, HS6.out.b.toBelow (Nat.le_refl _) (fun _ h => h.elim)⟩
end Go.Proofs.Ytfinbkpmkgpffaa
