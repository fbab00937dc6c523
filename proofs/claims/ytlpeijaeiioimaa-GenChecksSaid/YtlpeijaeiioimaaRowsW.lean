/- How many rows an answer may take and what it is counted at, and a copy of what is asked, walked. Condition: the prompt reads as the tokens. -/
import Derived.Test.YtlpeijaeiioimaaCheckW
import Derived.Test.YtlpeijaeiioimaaArgs
import Derived.Deep.RegionHeld3
import Derived.RegionTactic
import Derived.Deep.DeepCutAuto
import Derived.Deep.RegionWith
namespace Go.Proofs.Ytlpeijaeiioimaa
open Go.RowKit

def rowsN (kind : Int) (n : Nat) (len : Int) : Int := if kind = 4 then (n : Int) else wrap64 ((n : Int) + len)
def rowsK (kind beams : Int) : Int := if kind = 3 then beams else 1
set_option maxRecDepth 100000 in
set_option maxHeartbeats 1600000 in
theorem rows_walk (w : World) {A : Option Addr} {n c : Nat} {kind len stop seed topk beams pen : Int} {x : Nat} :
    Calls Try.prog 19 #[.agg #[.int .i64 kind, .slice A n c, .int .i64 len, .int .i64 stop, .int .u64 seed, .int .i64 topk, .float .f64 x, .int .i64 beams, .int .i64 pen]] w
      (fun e w' => e = .returned (.tuple #[.int .i64 (rowsN kind n len), .int .i64 (rowsK kind beams)]) ∧ Below w.heap.size w w') := by
  have HB0 : Hid (Below w.heap.size w (w.alloc (.cells #[.int .i64 kind, .slice A n c, .int .i64 len, .int .i64 stop, .int .u64 seed, .int .i64 topk, .float .f64 x, .int .i64 beams, .int .i64 pen] 35))) := below_alloc0 _ _
  by_cases k4 : kind = 4
  · subst k4
    have e1 : rowsN 4 n len = (n : Int) := rfl
    have e2 : rowsK 4 beams = 1 := rfl
    rw [e1, e2]
    go_enter Try.func19, Try.ntmps19
    go_wp2_with fail
    go_ret2
    exact ⟨rfl, HB0.out⟩
  have g4 : (kind == 4) = false := beq_eq_false_iff_ne.2 k4
  have e1 : rowsN kind n len = wrap64 ((n : Int) + len) := by unfold rowsN; rw [if_neg k4]
  by_cases k3 : kind = 3
  · subst k3
    have e2 : rowsK 3 beams = beams := rfl
    rw [e1, e2]
    go_enter Try.func19, Try.ntmps19
    go_wp2_with fail
    go_quiet (fail)
    go_wp2_with fail
    go_ret2
    exact ⟨rfl, below_drewN HB0.out _⟩
  have g3 : (kind == 3) = false := beq_eq_false_iff_ne.2 k3
  have e2 : rowsK kind beams = 1 := by unfold rowsK; rw [if_neg k3]
  rw [e1, e2]
  go_enter Try.func19, Try.ntmps19
  go_wp2_with fail
  go_ret2
  exact ⟨rfl, HB0.out⟩
set_option maxRecDepth 100000 in
set_option maxHeartbeats 1600000 in
theorem rrows_walk (w : World) {A : Option Addr} {n c : Nat} {kind len stop seed topk beams pen : Int} {x : Nat} :
    Calls Try.prog 20 #[.agg #[.int .i64 kind, .slice A n c, .int .i64 len, .int .i64 stop, .int .u64 seed, .int .i64 topk, .float .f64 x, .int .i64 beams, .int .i64 pen]] w
      (fun e w' => e = .returned (.tuple #[.int .i64 (rowsN kind n len), .int .i64 (rowsK kind beams)]) ∧ Below w.heap.size w w') := by
  have HB0 : Hid (Below w.heap.size w (w.alloc (.cells #[.int .i64 kind, .slice A n c, .int .i64 len, .int .i64 stop, .int .u64 seed, .int .i64 topk, .float .f64 x, .int .i64 beams, .int .i64 pen] 35))) := below_alloc0 _ _
  by_cases k4 : kind = 4
  · subst k4
    have e1 : rowsN 4 n len = (n : Int) := rfl
    have e2 : rowsK 4 beams = 1 := rfl
    rw [e1, e2]
    go_enter Try.func20, Try.ntmps20
    go_wp2_with fail
    go_ret2
    exact ⟨rfl, HB0.out⟩
  have g4 : (kind == 4) = false := beq_eq_false_iff_ne.2 k4
  have e1 : rowsN kind n len = wrap64 ((n : Int) + len) := by unfold rowsN; rw [if_neg k4]
  by_cases k3 : kind = 3
  · subst k3
    have e2 : rowsK 3 beams = beams := rfl
    rw [e1, e2]
    go_enter Try.func20, Try.ntmps20
    go_wp2_with fail
    go_quiet (fail)
    go_wp2_with fail
    go_ret2
    exact ⟨rfl, below_drewN HB0.out _⟩
  have g3 : (kind == 3) = false := beq_eq_false_iff_ne.2 k3
  have e2 : rowsK kind beams = 1 := by unfold rowsK; rw [if_neg k3]
  rw [e1, e2]
  go_enter Try.func20, Try.ntmps20
  go_wp2_with fail
  go_ret2
  exact ⟨rfl, HB0.out⟩
set_option maxRecDepth 100000 in
set_option maxHeartbeats 1600000 in
theorem cost_walk (w : World) {A : Option Addr} {n c : Nat} {kind len stop seed topk beams pen : Int} {x : Nat} :
    Calls Try.prog 21 #[.agg #[.int .i64 kind, .slice A n c, .int .i64 len, .int .i64 stop, .int .u64 seed, .int .i64 topk, .float .f64 x, .int .i64 beams, .int .i64 pen]] w
      (IntP w (wrap64 (rowsN kind n len * rowsK kind beams))) := by
  have HB0 : Hid (Below w.heap.size w (w.alloc (.cells #[.int .i64 kind, .slice A n c, .int .i64 len, .int .i64 stop, .int .u64 seed, .int .i64 topk, .float .f64 x, .int .i64 beams, .int .i64 pen] 35))) := below_alloc0 _ _
  have HC := fun w => hid_ (rows_walk w (A := A) (n := n) (c := c) (kind := kind) (len := len) (stop := stop) (seed := seed) (topk := topk) (beams := beams) (pen := pen) (x := x))
  generalize rowsN kind n len = a at *
  generalize rowsK kind beams = b at *
  go_enter Try.func21, Try.ntmps21
  go_wp2_with ((go_at_call 19); (refine (HC _).out.mono ?_); (rintro e w1 ⟨rfl, hb⟩); (have HB1 := hid_ (below_comp HB0.out hb)); (clear hb))
  go_ret
  exact ⟨rfl, HB1.out⟩
set_option maxRecDepth 100000 in
set_option maxHeartbeats 1600000 in
theorem rcost_walk (w : World) {A : Option Addr} {n c : Nat} {kind len stop seed topk beams pen : Int} {x : Nat} :
    Calls Try.prog 22 #[.agg #[.int .i64 kind, .slice A n c, .int .i64 len, .int .i64 stop, .int .u64 seed, .int .i64 topk, .float .f64 x, .int .i64 beams, .int .i64 pen]] w
      (IntP w (wrap64 (rowsN kind n len * rowsK kind beams))) := by
  have HB0 : Hid (Below w.heap.size w (w.alloc (.cells #[.int .i64 kind, .slice A n c, .int .i64 len, .int .i64 stop, .int .u64 seed, .int .i64 topk, .float .f64 x, .int .i64 beams, .int .i64 pen] 35))) := below_alloc0 _ _
  have HC := fun w => hid_ (rrows_walk w (A := A) (n := n) (c := c) (kind := kind) (len := len) (stop := stop) (seed := seed) (topk := topk) (beams := beams) (pen := pen) (x := x))
  generalize rowsN kind n len = a at *
  generalize rowsK kind beams = b at *
  go_enter Try.func22, Try.ntmps22
  go_wp2_with ((go_at_call 20); (refine (HC _).out.mono ?_); (rintro e w1 ⟨rfl, hb⟩); (have HB1 := hid_ (below_comp HB0.out hb)); (clear hb))
  go_ret
  exact ⟨rfl, HB1.out⟩
def OwnPost (w : World) (kind len stop seed topk : Int) (x : Nat) (beams pen : Int) (xs : List Int) (e : Ending) (w' : World) : Prop :=
  ∃ A c, e = .returned (.agg #[.int .i64 kind, .slice A xs.length c, .int .i64 len, .int .i64 stop, .int .u64 seed, .int .i64 topk, .float .f64 x, .int .i64 beams, .int .i64 pen]) ∧ RdI w' w'.heap.size .i64 (.slice A xs.length c) xs ∧ Below w.heap.size w w'
theorem Try.infoIntG : (Try.prog.info? 3).map (fun i => (i.zero, i.size, i.bytes)) = some (some (.int .i64 0), 1, 8) := by kernel_rfl
set_option maxRecDepth 100000 in
set_option maxHeartbeats 1600000 in
theorem own_walk {w : World} {B : Nat} {A : Option Addr} {n c : Nat} {xs : List Int} (hx : RdI w B .i64 (.slice A n c) xs) (hf : Form (.slice A n c)) (hn : n ≤ 1000) {kind len stop seed topk beams pen : Int} {x : Nat} :
    Calls Try.prog 17 #[.agg #[.int .i64 kind, .slice A n c, .int .i64 len, .int .i64 stop, .int .u64 seed, .int .i64 topk, .float .f64 x, .int .i64 beams, .int .i64 pen]] w
      (OwnPost w kind len stop seed topk x beams pen xs) := by
  obtain ⟨i0, hi0, hz0, hz1, hz2⟩ := info_parts Try.infoIntG
  obtain rfl : n = xs.length := (rdi_len hx).1.symm
  have hB1 : Upd (fun _ => False) w ((w.alloc (.cells #[.int .i64 kind, .slice A xs.length c, .int .i64 len, .int .i64 stop, .int .u64 seed, .int .i64 topk, .float .f64 x, .int .i64 beams, .int .i64 pen] 35)).alloc
      (.cells #[.int .i64 0, .slice none 0 0, .int .i64 0, .int .i64 0, .int .u64 0, .int .i64 0, .float .f64 0, .int .i64 0, .int .i64 0] 35)) := ((Upd.refl _ w).alloc _).alloc _
  have hA1 : AskAt ((w.alloc (.cells #[.int .i64 kind, .slice A xs.length c, .int .i64 len, .int .i64 stop, .int .u64 seed, .int .i64 topk, .float .f64 x, .int .i64 beams, .int .i64 pen] 35)).alloc
      (.cells #[.int .i64 0, .slice none 0 0, .int .i64 0, .int .i64 0, .int .u64 0, .int .i64 0, .float .f64 0, .int .i64 0, .int .i64 0] 35)) w.heap.size kind (.slice A xs.length c) len stop seed topk x beams pen := (Blk.new w 35 _).alloc _
  have hZ1 := Blk.new (w.alloc (.cells #[.int .i64 kind, .slice A xs.length c, .int .i64 len, .int .i64 stop, .int .u64 seed, .int .i64 topk, .float .f64 x, .int .i64 beams, .int .i64 pen] 35)) 35 #[.int .i64 0, .slice none 0 0, .int .i64 0, .int .i64 0, .int .u64 0, .int .i64 0, .float .f64 0, .int .i64 0, .int .i64 0]
  rw [World.size_alloc] at hZ1
  go_enter Try.func17, Try.ntmps17
  go_upto_region 1 with fail
  have hsz : ((w.alloc (.cells #[.int .i64 kind, .slice A xs.length c, .int .i64 len, .int .i64 stop, .int .u64 seed, .int .i64 topk, .float .f64 x, .int .i64 beams, .int .i64 pen] 35)).alloc
      (.cells #[.int .i64 0, .slice none 0 0, .int .i64 0, .int .i64 0, .int .u64 0, .int .i64 0, .float .f64 0, .int .i64 0, .int .i64 0] 35)).heap.size = w.heap.size + 2 := by rw [World.size_alloc, World.size_alloc]
  have hX := rdi_below hx hB1.toB
  generalize (w.alloc (.cells #[.int .i64 kind, .slice A xs.length c, .int .i64 len, .int .i64 stop, .int .u64 seed, .int .i64 topk, .float .f64 x, .int .i64 beams, .int .i64 pen] 35)).alloc
      (.cells #[.int .i64 0, .slice none 0 0, .int .i64 0, .int .i64 0, .int .u64 0, .int .i64 0, .float .f64 0, .int .i64 0, .int .i64 0] 35) = W at *
  have hB2 : Upd (fun _ => False) W (W.alloc (.cells #[] 3)) := (Upd.refl _ W).alloc _
  have HE1 := hid_ (own_empty_ W 3)
  have HX2 := hid_ (rdi_below hX hB2.toB)
  have HA1 := hid_ hA1
  have HZ1 := hid_ hZ1
  have HB1 := hid_ hB1
  have HF := hid_ hf
  have a1 := (hA1.below hB2.toB).cells.2.1
  have HSZ := hid_ hsz
  clear hsz hx hX hB1 hB2 hA1 hZ1 hf
  go_wp2_with (at_builtin; refine wpList_append_rd rfl (.tmp 3) (.tmp 5) 31 rfl W.heap.size 3 i0 (.int .i64 0) 8 Try.underlying31 hi0 hz0 hz1 hz2 rfl _ 0 [] rfl HE1.out B _ _ rfl HX2.out HF.out (ints_one _) ?c3 ?c4 ?c5 ?_)
  case c3 => unfold maxLen; simp; omega
  case c4 => simp; omega
  try case c5 => simp
  intro v1 w2 hO1 hg1
  obtain ⟨D1, d1, rfl, hr1, hb1⟩ := copied hO1 hg1
  have hA2 := HA1.out.below hb1
  have HZ2 := hid_ (HZ1.out.upd (Upd.of_below (S := fun _ => False) hb1) (fun h => h))
  have HU2 := hid_ (Upd.below HB1.out hb1)
  have f1 := Blk.frozen hA2 1
  clear a1
  have a1 := hA2.cells.2.1
  have hA3 : AskAt (w2.setCell ⟨w.heap.size, 1, none⟩ (.slice D1 xs.length d1)) w.heap.size kind (.slice D1 xs.length d1) len stop seed topk x beams pen := Blk.set_ hA2 1 _
  have hz3 : Blk (w2.setCell ⟨w.heap.size, 1, none⟩ (.slice D1 xs.length d1)) (w.heap.size + 1) 35 #[.int .i64 0, .slice none 0 0, .int .i64 0, .int .i64 0, .int .u64 0, .int .i64 0, .float .f64 0, .int .i64 0, .int .i64 0] := HZ2.out.far (p := ⟨w.heap.size, 1, none⟩) (by simp) _
  have HZ3 := hid_ hz3
  have hv3 : Upd (fun _ => False) w (w2.setCell ⟨w.heap.size, 1, none⟩ (.slice D1 xs.length d1)) := HU2.out.setCell (p := ⟨w.heap.size, 1, none⟩) (.inr (Nat.le_refl _)) _
  have hO3 : (w2.setCell ⟨w.heap.size, 1, none⟩ (.slice D1 xs.length d1)).ownsRow W.heap.size 3 1 (.slice D1 xs.length d1) xs.length (xs.map (Value.int .i64)) :=
    own_upd hO1 ((Upd.refl (fun k => k = w.heap.size) w2).setCell (p := ⟨w.heap.size, 1, none⟩) (.inl rfl) _) (fun g hg => by have := HSZ.out; omega)
  have HA3 := hid_ hA3
  have HV3 := hid_ hv3
  have HO3 := hid_ hO3
  clear hO1 hg1 hr1 hb1 hA2 hz3 hv3 hO3 hA3
  go_upto_region 2 with fail
  generalize w2.setCell ⟨w.heap.size, 1, none⟩ (.slice D1 xs.length d1) = w3 at *
  clear a1 f1
  obtain ⟨a0, a1, a2, a3, a4, a5, a6, a7, a8⟩ := HA3.out.cells
  have hth : w3.there (w.heap.size + 1) 0 9 := fun j hj => by
    refine ⟨?_, HZ3.out.frozen _⟩
    rw [HZ3.out.cell]
    have hc : j = 0 ∨ j = 1 ∨ j = 2 ∨ j = 3 ∨ j = 4 ∨ j = 5 ∨ j = 6 ∨ j = 7 ∨ j = 8 := by omega
    rcases hc with rfl | rfl | rfl | rfl | rfl | rfl | rfl | rfl | rfl <;> rfl
  have hR4 := World.rangeAt_setCells_same w3 (w.heap.size + 1) 0 [.int .i64 kind, .slice D1 xs.length d1, .int .i64 len, .int .i64 stop, .int .u64 seed, .int .i64 topk, .float .f64 x, .int .i64 beams, .int .i64 pen] hth
  have hV4 : Upd (fun _ => False) w (w3.setCells (w.heap.size + 1) 0 [.int .i64 kind, .slice D1 xs.length d1, .int .i64 len, .int .i64 stop, .int .u64 seed, .int .i64 topk, .float .f64 x, .int .i64 beams, .int .i64 pen]) := Upd.setCells (.inr (by omega)) _ _ HV3.out
  have hO4 : (w3.setCells (w.heap.size + 1) 0 [.int .i64 kind, .slice D1 xs.length d1, .int .i64 len, .int .i64 stop, .int .u64 seed, .int .i64 topk, .float .f64 x, .int .i64 beams, .int .i64 pen]).ownsRow W.heap.size 3 1 (.slice D1 xs.length d1) xs.length (xs.map (Value.int .i64)) :=
    own_upd HO3.out (Upd.setCells (S := fun k => k = w.heap.size + 1) (.inl rfl) _ _ (Upd.refl _ w3)) (fun g hg h => by have := HSZ.out; omega)
  obtain ⟨w4, hw4⟩ : ∃ w4, w3.setCells (w.heap.size + 1) 0 [.int .i64 kind, .slice D1 xs.length d1, .int .i64 len, .int .i64 stop, .int .u64 seed, .int .i64 topk, .float .f64 x, .int .i64 beams, .int .i64 pen] = w4 := ⟨_, rfl⟩
  rw [hw4] at hR4 hV4 hO4
  have e0 : w4.cell? ⟨w.heap.size + 1, 0, none⟩ = some (.int .i64 kind) := hR4 0 _ rfl
  have e1 : w4.cell? ⟨w.heap.size + 1, 1, none⟩ = some (.slice D1 xs.length d1) := hR4 1 _ rfl
  have e2 : w4.cell? ⟨w.heap.size + 1, 2, none⟩ = some (.int .i64 len) := hR4 2 _ rfl
  have e3 : w4.cell? ⟨w.heap.size + 1, 3, none⟩ = some (.int .i64 stop) := hR4 3 _ rfl
  have e4 : w4.cell? ⟨w.heap.size + 1, 4, none⟩ = some (.int .u64 seed) := hR4 4 _ rfl
  have e5 : w4.cell? ⟨w.heap.size + 1, 5, none⟩ = some (.int .i64 topk) := hR4 5 _ rfl
  have e6 : w4.cell? ⟨w.heap.size + 1, 6, none⟩ = some (.float .f64 x) := hR4 6 _ rfl
  have e7 : w4.cell? ⟨w.heap.size + 1, 7, none⟩ = some (.int .i64 beams) := hR4 7 _ rfl
  have e8 : w4.cell? ⟨w.heap.size + 1, 8, none⟩ = some (.int .i64 pen) := hR4 8 _ rfl
  have HTH := hid_ hth
  have HV4 := hid_ hV4
  have HO4 := hid_ hO4
  have HW4 := hid_ hw4
  clear hth hR4 hV4 hO4 hw4
  go_wp2_with ((with_reducible refine wpList_store_agg (ty := 35) (x := .tmp 2) (y := .tmp 8) (w.heap.size + 1) 0 [.int .i64 kind, .slice D1 xs.length d1, .int .i64 len, .int .i64 stop, .int .u64 seed, .int .i64 topk, .float .f64 x, .int .i64 beams, .int .i64 pen] 9 ?hx ?hy ?hn ?ht ?hi ?h1 ?_); (case hx => rfl); (case hy => rfl); (case hn => rfl); (case ht => exact HTH.out); (case hi => kernel_rfl); (case h1 => rfl); (rw [HW4.out]); (clear a0 a1 a2 a3 a4 a5 a6 a7 a8))
  refine bodyPost_ret (v := .agg #[.int .i64 kind, .slice D1 xs.length d1, .int .i64 len, .int .i64 stop, .int .u64 seed, .int .i64 topk, .float .f64 x, .int .i64 beams, .int .i64 pen]) ?_ rfl ?_
  · simp [results, Try.f17, go_sem, e0, e1, e2, e3, e4, e5, e6, e7, e8]
  · exact ⟨D1, d1, rfl, Rd.of_own HO4.out, HV4.out.toB⟩
end Go.Proofs.Ytlpeijaeiioimaa
