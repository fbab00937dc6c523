/- The statements' own 'works' of layer 16 walked: it returns true. No condition. -/
import Derived.Test.YtlpeijaeiioimaaMixWB
import Derived.Test.YtlpeijaeiioimaaLawRow
import Derived.Test.YtlpeijaeiioimaaSame
namespace Go.Proofs.Ytlpeijaeiioimaa
open Go.RowKit

theorem below_alloc (w : World) (o : Obj) : Below w.heap.size w (w.alloc o) := ((Upd.refl (fun _ => False) w).alloc o).toBelow (Nat.le_refl _) (fun _ h => h.elim)
theorem blk_rdi {w : World} {b t : Nat} {k : IntKind} {l : List Int} (h : Blk w b t (l.map (Value.int k)).toArray) (hm : l.length ≤ maxLen) : RdI w w.heap.size k (.slice (some ⟨b, 0, none⟩) l.length l.length) l := by
  refine ⟨some ⟨b, 0, none⟩, l.length, by rw [List.length_map], by rw [List.length_map]; exact Nat.le_refl _, by rw [List.length_map]; exact hm, fun _ => ⟨b, 0, rfl, h.lt, h.lt, fun j u hj => ?_⟩⟩
  rw [Nat.zero_add, h.cell]
  simpa using hj
theorem same4c {w : World} {B B' : Nat} {v u : Value} {l : List Int} (h1 : RdI w B .i64 v l) (h2 : RdI w B' .i64 u l) : Calls Try.prog 15 #[v, u] w (fun e w' => e = .returned (.bool true) ∧ Below w.heap.size w w') := by
  refine (same04_any h1 h2).mono ?_
  rintro e w' ⟨rfl, h⟩
  exact ⟨by rw [decide_eq_true rfl], below_drawn h⟩
theorem same7c {w : World} {B B' : Nat} {v u : Value} {l : List Int} (h1 : RdI w B .i64 v l) (h2 : RdI w B' .i64 u l) : Calls Try.prog 29 #[v, u] w (fun e w' => e = .returned (.bool true) ∧ Below w.heap.size w w') := by
  refine (same07_any h1 h2).mono ?_
  rintro e w' ⟨rfl, h⟩
  exact ⟨by rw [decide_eq_true rfl], below_drawn h⟩
theorem wsame4 {w : World} {v : Value} {x : Int} (h : RdI w w.heap.size .i64 v [x]) : Calls Try.prog 15 #[v, .slice (some ⟨w.heap.size, 0, none⟩) 1 1] (w.alloc (.cells #[.int .i64 x] 2)) (fun e w' => e = .returned (.bool true) ∧ Below w.heap.size w w') := by
  have h2 := blk_rdi (k := .i64) (l := [x]) (Blk.new w 2 _) (by unfold maxLen; simp)
  refine (same4c (rdi_below h (below_alloc w _)) h2).mono ?_
  rintro e w' ⟨rfl, hb⟩
  exact ⟨rfl, below_comp (below_alloc w _) hb⟩
theorem wsame7 {w : World} {v : Value} {x : Int} (h : RdI w w.heap.size .i64 v [x]) : Calls Try.prog 29 #[v, .slice (some ⟨w.heap.size, 0, none⟩) 1 1] (w.alloc (.cells #[.int .i64 x] 3)) (fun e w' => e = .returned (.bool true) ∧ Below w.heap.size w w') := by
  have h2 := blk_rdi (k := .i64) (l := [x]) (Blk.new w 3 _) (by unfold maxLen; simp)
  refine (same7c (rdi_below h (below_alloc w _)) h2).mono ?_
  rintro e w' ⟨rfl, hb⟩
  exact ⟨rfl, below_comp (below_alloc w _) hb⟩
theorem wk_one : oneV [64] [64] 1 [0] = some [0] := by decide +kernel
theorem wk_re : routeE [32, 64] [65536] 2 1 = 0 := by decide +kernel
theorem wk_rc : routeC [32, 64] [65536] 2 1 = [1] := by decide +kernel
theorem wk_rp : routeP [32, 64] [65536] 2 1 = [65536] := by decide +kernel
theorem wt_of {l : List Int} (h : ∀ x ∈ l, -128 ≤ x ∧ x ≤ 127) : Wt l := h
theorem works_one (w : World) : Calls Try.prog 13 #[.slice (some ⟨w.heap.size, 0, none⟩) 1 1, .slice (some ⟨w.heap.size + 1, 0, none⟩) 1 1, .int .i64 1, .slice (some ⟨w.heap.size + 2, 0, none⟩) 1 1]
    (((w.alloc (.cells #[.int .i8 64] 87)).alloc (.cells #[.int .i8 64] 87)).alloc (.cells #[.int .i64 0] 2)) (fun e w' => ∃ A c, e = .returned (.tuple #[.slice A 1 c, .int .i64 0]) ∧ RdI w' w'.heap.size .i64 (.slice A 1 c) [0] ∧ Below w.heap.size w w') := by
  have b1 := (((Blk.new w 87 #[.int .i8 64]).alloc (.cells #[.int .i8 64] 87)).alloc (.cells #[.int .i64 0] 2))
  have b2 := (Blk.new (w.alloc (.cells #[.int .i8 64] 87)) 87 #[.int .i8 64]).alloc (.cells #[.int .i64 0] 2)
  have b3 := Blk.new ((w.alloc (.cells #[.int .i8 64] 87)).alloc (.cells #[.int .i8 64] 87)) 2 #[.int .i64 0]
  rw [World.size_alloc] at b2
  rw [World.size_alloc, World.size_alloc] at b3
  have h := one_any (hidden := 1) (blk_rdi (k := .i8) (l := [64]) b1 (by unfold maxLen; simp)) (blk_rdi (k := .i8) (l := [64]) b2 (by unfold maxLen; simp)) (blk_rdi (k := .i64) (l := [0]) b3 (by unfold maxLen; simp)) (wt_of (by decide)) (wt_of (by decide)) (by simp) (by simp)
  rw [wk_one] at h
  refine h.mono ?_
  rintro e w' ⟨A, c, rfl, hO, hb⟩
  exact ⟨A, c, rfl, Rd.of_own hO, below_comp (below_comp (below_comp (below_alloc w _) (below_alloc _ _)) (below_alloc _ _)) hb⟩
theorem works_route (w : World) : Calls Try.prog 27 #[.slice (some ⟨w.heap.size, 0, none⟩) 2 2, .int .i64 2, .int .i64 1, .slice (some ⟨w.heap.size + 1, 0, none⟩) 1 1]
    ((w.alloc (.cells #[.int .i8 32, .int .i8 64] 87)).alloc (.cells #[.int .i64 65536] 2)) (fun e w' => ∃ A1 c1 A2 c2, e = .returned (.tuple #[.slice A1 1 c1, .slice A2 1 c2, .int .i64 0]) ∧ RdI w' w'.heap.size .i64 (.slice A1 1 c1) [1] ∧ RdI w' w'.heap.size .i64 (.slice A2 1 c2) [65536] ∧ Below w.heap.size w w') := by
  have b1 := (Blk.new w 87 #[.int .i8 32, .int .i8 64]).alloc (.cells #[.int .i64 65536] 2)
  have b2 := Blk.new (w.alloc (.cells #[.int .i8 32, .int .i8 64] 87)) 2 #[.int .i64 65536]
  rw [World.size_alloc] at b2
  have h := route_ok_any (m := 2) (k := 1) wk_re (blk_rdi (k := .i8) (l := [32, 64]) b1 (by unfold maxLen; simp)) (blk_rdi (k := .i64) (l := [65536]) b2 (by unfold maxLen; simp)) (wt_of (by decide)) (by simp)
  rw [wk_rc, wk_rp] at h
  refine h.mono ?_
  rintro e w' ⟨A1, c1, A2, c2, rfl, h1, h2, hb, _, _⟩
  exact ⟨A1, c1, A2, c2, rfl, h1, h2, below_comp (below_comp (below_alloc w _) (below_alloc _ _)) hb⟩

set_option maxRecDepth 100000 in
set_option maxHeartbeats 3200000 in
theorem works16_any (w : World) : Calls Try.prog 30 #[] w (TruePost w) := by
  have hH := hid_ (Nat.zero_le 1)
  go_enter Try.func30, Try.ntmps30
  go_wp2_with (first
    | ((go_at_call 13); (refine (works_one _).mono ?_); (rintro e w1 ⟨A1, c1, rfl, hr, hb⟩); (have HR1 := hid_ hr); (have HB1 := hid_ hb); (clear hr hb))
    | ((go_at_call 27); (refine (works_route _).mono ?_); (rintro e w2 ⟨A2, c2, A3, c3, rfl, hr, hr2, hb⟩); (have HR2 := hid_ hr); (have HR3 := hid_ hr2); (have HR12 := hid_ (rdi_below HR1.out hb)); (have HB2 := hid_ (below_comp HB1.out hb)); (clear hr hr2 hb))
    | ((go_at_call 24); (refine (mix_no1 (.inl rfl)).mono ?_); (rintro e w3 ⟨rfl, hb⟩); (have hb := below_comp (below_alloc w2 _) hb); (have HR13 := hid_ (rdi_below HR12.out hb).low); (have HR23 := hid_ (rdi_below HR2.out hb).low); (have HR33 := hid_ (rdi_below HR3.out hb).low); (have HB3 := hid_ (below_comp HB2.out hb)); (clear hb HR12))
    | ((go_at_call 15); (refine (wsame4 HR13.out).mono ?_); (rintro e w4 ⟨rfl, hb⟩); (have HR24 := hid_ (rdi_below HR23.out hb).low); (have HR34 := hid_ (rdi_below HR33.out hb).low); (have HB4 := hid_ (below_comp HB3.out hb)); (clear hb HR13))
    | ((go_at_call 29); (refine (wsame7 HR24.out).mono ?_); (rintro e w5 ⟨rfl, hb⟩); (have HR35 := hid_ (rdi_below HR34.out hb).low); (have HB5 := hid_ (below_comp HB4.out hb)); (clear hb))
    | ((go_at_call 15); (refine (wsame4 HR35.out).mono ?_); (rintro e w6 ⟨rfl, hb⟩); (have HB6 := hid_ (below_comp HB5.out hb)); (clear hb)))
  go_ret
  exact ⟨rfl, HB6.out⟩
end Go.Proofs.Ytlpeijaeiioimaa
