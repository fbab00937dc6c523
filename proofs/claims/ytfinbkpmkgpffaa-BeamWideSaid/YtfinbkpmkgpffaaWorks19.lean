/- The statements' own 'works' of layer 19 walked: it returns true. No condition. -/
import Derived.Test.YtfinbkpmkgpffaaBeamGrowsW
namespace Go.Proofs.Ytfinbkpmkgpffaa
open Go.RowKit

theorem rdbms_none (w : World) : RdBms w (.slice none 0 0) [] := ⟨none, 0, rfl, Nat.le_refl _, Nat.zero_le _, fun i x h => by cases h⟩
theorem rdrows_none (w : World) : RdRows w (.slice none 0 0) [] := ⟨none, 0, rfl, Nat.le_refl _, Nat.zero_le _, fun i x h => by cases h⟩
theorem new_ints (w : World) (t : TypeId) (l : List Int) (h : l.length ≤ maxLen) : RdI (w.alloc (.cells (rowc l) t)) (w.alloc (.cells (rowc l) t)).heap.size .i64 (.slice (some ⟨w.heap.size, 0, none⟩) l.length l.length) l := by
  have h1 := rowc_rd (Blk.new w t (rowc l)) (Nat.le_refl l.length) (Nat.le_refl l.length) h
  rwa [List.take_length] at h1
theorem start_bms (w : World) : RdBms (w.alloc (.cells #[.slice none 0 0, .int .i64 0, .bool false] 55)) (.slice (some ⟨w.heap.size, 0, none⟩) 1 1) [⟨.slice none 0 0, ⟨[], 0, false⟩⟩] := by
  have hb := Blk.new w 55 #[.slice none 0 0, .int .i64 0, .bool false]
  refine ⟨some ⟨w.heap.size, 0, none⟩, 1, rfl, Nat.le_refl _, by unfold maxLen; simp, fun i x hx => ?_⟩
  match i, hx with
  | 0, hx =>
    injection hx with hx
    subst hx
    refine ⟨⟨_, 0, rfl, hb.lt, fun j u hj => ?_⟩, rdi_nil _ _ _ _ _, .inl rfl⟩
    match j, hj with
    | 0, hj => exact (hb.cell 0).trans hj
    | 1, hj => exact (hb.cell 1).trans hj
    | 2, hj => exact (hb.cell 2).trans hj
def rowsW (w : World) : World := (w.alloc (.cells #[.int .i64 5, .int .i64 9, .int .i64 9] 2)).alloc (.cells #[.slice (some ⟨w.heap.size, 0, none⟩) 3 3] 29)
theorem one_rows (w : World) : RdRows (rowsW w) (.slice (some ⟨w.heap.size + 1, 0, none⟩) 1 1) [[5, 9, 9]] := by
  have hb := Blk.new (w.alloc (.cells #[.int .i64 5, .int .i64 9, .int .i64 9] 2)) 29 #[.slice (some ⟨w.heap.size, 0, none⟩) 3 3]
  rw [World.size_alloc] at hb
  have hr := rdi_below (new_ints w 2 [5, 9, 9] (by unfold maxLen; simp)) (below_alloc _ (.cells #[.slice (some ⟨w.heap.size, 0, none⟩) 3 3] 29))
  refine ⟨some ⟨w.heap.size + 1, 0, none⟩, 1, rfl, Nat.le_refl _, by unfold maxLen; simp, fun i r hx => ?_⟩
  match i, hx with
  | 0, hx =>
    injection hx with hx
    subst hx
    exact ⟨_, 0, _, rfl, hb.lt, (hb.cell 0).trans rfl, rdi_low hr, .inr ⟨_, _, _, rfl⟩⟩
def litW (w : World) : World := ((w.alloc (.cells #[.int .i64 1] 3)).alloc (.cells #[.int .i64 2] 3)).alloc (.cells #[.slice (some ⟨w.heap.size, 0, none⟩) 1 1, .int .i64 0, .bool false, .slice (some ⟨w.heap.size + 1, 0, none⟩) 1 1, .int .i64 0, .bool false] 57)
theorem lit_bms (w : World) : RdBms (litW w) (.slice (some ⟨w.heap.size + 1 + 1, 0, none⟩) 2 2) [⟨.slice (some ⟨w.heap.size, 0, none⟩) 1 1, ⟨[1], 0, false⟩⟩, ⟨.slice (some ⟨w.heap.size + 1, 0, none⟩) 1 1, ⟨[2], 0, false⟩⟩] := by
  have hb := Blk.new ((w.alloc (.cells #[.int .i64 1] 3)).alloc (.cells #[.int .i64 2] 3)) 57 #[.slice (some ⟨w.heap.size, 0, none⟩) 1 1, .int .i64 0, .bool false, .slice (some ⟨w.heap.size + 1, 0, none⟩) 1 1, .int .i64 0, .bool false]
  rw [World.size_alloc, World.size_alloc] at hb
  have h1 := new_ints w 3 [1] (by unfold maxLen; simp)
  have h2 := new_ints (w.alloc (.cells #[.int .i64 1] 3)) 3 [2] (by unfold maxLen; simp)
  rw [show (w.alloc (.cells #[.int .i64 1] 3)).heap.size = w.heap.size + 1 from World.size_alloc _ _] at h2
  have h3 := rdi_below (rdi_below h1 (below_alloc _ (.cells #[.int .i64 2] 3))) (below_alloc _ (.cells #[.slice (some ⟨w.heap.size, 0, none⟩) 1 1, .int .i64 0, .bool false, .slice (some ⟨w.heap.size + 1, 0, none⟩) 1 1, .int .i64 0, .bool false] 57))
  have h4 := rdi_below h2 (below_alloc _ (.cells #[.slice (some ⟨w.heap.size, 0, none⟩) 1 1, .int .i64 0, .bool false, .slice (some ⟨w.heap.size + 1, 0, none⟩) 1 1, .int .i64 0, .bool false] 57))
  refine ⟨some ⟨w.heap.size + 1 + 1, 0, none⟩, 2, rfl, Nat.le_refl _, by unfold maxLen; simp, fun i x hx => ?_⟩
  match i, hx with
  | 0, hx =>
    injection hx with hx
    subst hx
    refine ⟨⟨_, 0, rfl, hb.lt, fun j u hj => ?_⟩, rdi_low h3, .inr ⟨_, _, _, rfl⟩⟩
    match j, hj with
    | 0, hj => exact (hb.cell 0).trans hj
    | 1, hj => exact (hb.cell 1).trans hj
    | 2, hj => exact (hb.cell 2).trans hj
  | 1, hx =>
    injection hx with hx
    subst hx
    refine ⟨⟨_, 0, rfl, hb.lt, fun j u hj => ?_⟩, rdi_low h4, .inr ⟨_, _, _, rfl⟩⟩
    match j, hj with
    | 0, hj => exact (hb.cell 3).trans hj
    | 1, hj => exact (hb.cell 4).trans hj
    | 2, hj => exact (hb.cell 5).trans hj
def two19 : List Bm := [⟨[1], 0, false⟩, ⟨[2], 0, false⟩]
theorem wk19_e : growE [⟨[], 0, false⟩] [[5, 9, 9]] 2 = 0 := by decide +kernel
theorem wk19_b : growB [⟨[], 0, false⟩] [[5, 9, 9]] 2 3 (-1) = two19 := by decide +kernel
theorem wk19_f : growF [⟨[], 0, false⟩] [[5, 9, 9]] 2 3 (-1) = [0, 0] := by decide +kernel
theorem wk19_e2 : growE [] [] 1 = 21 := by decide +kernel
theorem wk19_best : maxV (finalsV two19 0) = 0 := by decide +kernel
theorem wk19_none : maxV (finalsV [] 0) = -1 := by decide +kernel
theorem wk19_final : divV (-65536) (65536 + 4096 * clampP 16 * ((lenV 1 : Nat) : Int)) = -32768 := by decide +kernel
set_option maxRecDepth 100000 in
set_option maxHeartbeats 4000000 in
theorem works19_any (w : World) : Calls Try.prog 39 #[] w (TruePost w) := by
  have HG1 : Hid (Calls Try.prog 31 #[.slice (some ⟨w.heap.size, 0, none⟩) 1 1, .slice (some ⟨w.heap.size + 1 + 1, 0, none⟩) 1 1, .int .i64 2, .int .i64 3, .int .i64 (-1)] (rowsW (w.alloc (.cells #[.slice none 0 0, .int .i64 0, .bool false] 55))) (GrowPost (rowsW (w.alloc (.cells #[.slice none 0 0, .int .i64 0, .bool false] 55))) 0 two19 [0, 0])) := by
    have hr := one_rows (w.alloc (.cells #[.slice none 0 0, .int .i64 0, .bool false] 55))
    rw [World.size_alloc] at hr
    have h := grow_any (rdbms_below (start_bms w) (((Upd.refl (fun _ => False) _).alloc _).alloc _).toB) hr (by simp) (by simp) (fun x hx => by rw [List.mem_singleton] at hx; subst hx; simp) 2 3 (-1)
    rw [show bms [⟨.slice none 0 0, ⟨[], 0, false⟩⟩] = [⟨[], 0, false⟩] from rfl, wk19_e, wk19_b, wk19_f] at h
    exact h
  have HB0 : Hid (Below w.heap.size w (rowsW (w.alloc (.cells #[.slice none 0 0, .int .i64 0, .bool false] 55)))) := (((((Upd.refl (fun _ => False) w).alloc _).alloc _).alloc _).toB)
  have HG2 : Hid (∀ W, Calls Try.prog 31 #[.slice none 0 0, .slice none 0 0, .int .i64 1, .int .i64 1, .int .i64 (-1)] W (GrowPost W 21 [] [])) := fun W => by
    have h := grow_any (rdbms_none W) (rdrows_none W) (by simp) (by simp) (fun x hx => by cases hx) 1 1 (-1)
    rw [show bms [] = [] from rfl, wk19_e2, show growB [] [] 1 1 (-1) = [] from (by decide +kernel), show growF [] [] 1 1 (-1) = [] from (by decide +kernel)] at h
    exact h
  have HLB : Hid (∀ W, Below W.heap.size W (litW W)) := fun W => ((((Upd.refl (fun _ => False) W).alloc _).alloc _).alloc _).toB
  have HBE : Hid (∀ W v X, RdBms W v X → bms X = two19 → Calls Try.prog 37 #[v, .int .i64 0] W (fun e w' => e = .returned (.int .i64 0) ∧ Below W.heap.size W w')) := fun W v X hx he => by
    have hl : X.length = 2 := by rw [← bms_length, he]; rfl
    have h := best_any hx (by omega) 0
    rw [he, wk19_best] at h
    exact h
  have HBN : Hid (∀ W, Calls Try.prog 37 #[.slice none 0 0, .int .i64 0] W (fun e w' => e = .returned (.int .i64 (-1)) ∧ Below W.heap.size W w')) := fun W => by
    have h := best_any (rdbms_none W) (by simp) 0
    rw [show bms [] = [] from rfl, wk19_none] at h
    exact h
  have HFI : Hid (∀ (W : World) (TA : Option Addr), Calls Try.prog 35 #[.agg #[.slice TA 1 1, .int .i64 (-65536), .bool false], .int .i64 16] W (fun e w' => e = .returned (.int .i64 (-32768)) ∧ Below W.heap.size W w')) := fun W TA => by
    have h := final_any W TA 1 1 (-65536) false 16 (by decide)
    rw [wk19_final] at h
    exact h
  have HZ : Hid (∀ W : World, RdI (W.alloc (.cells #[.int .i64 0, .int .i64 0] 3)) (W.alloc (.cells #[.int .i64 0, .int .i64 0] 3)).heap.size .i64 (.slice (some ⟨W.heap.size, 0, none⟩) 2 2) [0, 0]) := fun W => new_ints W 3 [0, 0] (by unfold maxLen; simp)
  have HA1 : Hid (∀ (W : World) (o : Obj), Below W.heap.size W (W.alloc o)) := fun W o => below_alloc W o
  unfold rowsW at *
  rw [show (w.alloc (.cells #[.slice none 0 0, .int .i64 0, .bool false] 55)).heap.size = w.heap.size + 1 from World.size_alloc _ _] at HG1 HB0
  have K1 : Hid True := trivial
  go_enter Try.func39, Try.ntmps39
  go_wp2_with (first
    | ((go_at_call 31); (have h9 := K1); (refine HG1.out.mono ?_); (rintro e w1 ⟨v1, p1, X1, rfl, hx1, he1, hp1, hb1⟩); (have HX1 := hid_ hx1); (have HE1 := hid_ he1); (have HP1 := hid_ hp1); (have HB1 := hid_ (below_comp HB0.out hb1)); (clear h9 K1 hx1 he1 hp1 hb1); (have K2 : Hid True := trivial))
    | ((go_at_call 31); (have h9 := K2); (refine (HG2.out w1).mono ?_); (rintro e w2 ⟨v2, p2, X2, rfl, _, _, _, hb2⟩); (have HX2 := hid_ (rdbms_below HX1.out hb2)); (have HP2 := hid_ (rdi_below HP1.out hb2)); (have HB2 := hid_ (below_comp HB1.out hb2)); (clear h9 K2 hb2); (have K3 : Hid True := trivial))
    | ((go_at_call 34); (refine (from_any (w := w2) (X := X1) HX2.out (by rw [← bms_length, HE1.out]; decide)).mono ?_); (rintro e w3 ⟨u3, rfl, hx3, hb3⟩); (have HU3 := hid_ hx3); (have HX3 := hid_ (rdbms_below HX2.out hb3)); (have HP3 := hid_ (rdi_below HP2.out hb3)); (have HB3 := hid_ (below_comp HB2.out hb3)); (clear hx3 hb3))
    | ((go_at_call 33); (refine (rsameB_true (w := litW w3) (rdbms_below HU3.out (HLB.out w3)) (lit_bms w3) HE1.out).mono ?_); (rintro e w4 ⟨rfl, hb4⟩); (have hb4' := below_comp (HLB.out w3) hb4); (have HX4 := hid_ (rdbms_below HX3.out hb4')); (have HP4 := hid_ (rdi_below HP3.out hb4')); (have HB4 := hid_ (below_comp HB3.out hb4')); (clear hb4 hb4'))
    | ((go_at_call 22); (refine (same7b (rdi_below HP4.out (HA1.out w4 _)) (HZ.out w4)).mono ?_); (rintro e w5 ⟨rfl, hb5⟩); (have hb5' := below_comp (HA1.out w4 _) hb5); (have HX5 := hid_ (rdbms_below HX4.out hb5')); (have HB5 := hid_ (below_comp HB4.out hb5')); (clear hb5 hb5'))
    | ((go_at_call 37); (have h9 := K3); (refine (HBE.out w5 _ X1 HX5.out HE1.out).mono ?_); (rintro e w6 ⟨rfl, hb6⟩); (have HB6 := hid_ (below_comp HB5.out hb6)); (clear h9 K3 hb6); (have K4 : Hid True := trivial))
    | ((go_at_call 35); (refine (HFI.out _ _).mono ?_); (rintro e w7 ⟨rfl, hb7⟩); (have HB7 := hid_ (below_comp HB6.out (below_comp (HA1.out w6 _) hb7))); (clear hb7))
    | ((go_at_call 37); (have h9 := K4); (refine (HBN.out w7).mono ?_); (rintro e w8 ⟨rfl, hb8⟩); (have HB8 := hid_ (below_comp HB7.out hb8)); (clear h9 K4 hb8)))
  trace_state
  go_ret
  exact ⟨rfl, HB8.out⟩
end Go.Proofs.Ytfinbkpmkgpffaa
