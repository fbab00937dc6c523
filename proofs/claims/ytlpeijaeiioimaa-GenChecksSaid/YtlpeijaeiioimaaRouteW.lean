/- Where a row goes to, and with what shares, walked: the program's and the document's. Conditions: the slices read as the lists; weights are of 8 bits. -/
import Derived.Test.YtlpeijaeiioimaaExpertWB
import Derived.Test.YtlpeijaeiioimaaSoftW
import Derived.Test.YtlpeijaeiioimaaTopW
namespace Go.Proofs.Ytlpeijaeiioimaa
open Go.RowKit

def bestL (s ch : List Int) : List Int := ch.map (fun i => s.getD i.toNat 0)
def routeC (router xs : List Int) (m : Nat) (k : Int) : List Int := chosenV (matL router xs m) k
def routeB (router xs : List Int) (m : Nat) (k : Int) : List Int := bestL (matL router xs m) (routeC router xs m k)
def routeP (router xs : List Int) (m : Nat) (k : Int) : List Int := softV (routeB router xs m k)
def routeE (router xs : List Int) (m : Nat) (k : Int) : Int := if k < 1 ∨ (m : Int) < k then 20 else if MatOk router m xs then 0 else 21
theorem bestL_length (s ch : List Int) : (bestL s ch).length = ch.length := by simp [bestL]
theorem bestL_at {s ch : List Int} {i : Nat} (hi : i < ch.length) : (bestL s ch).getD i 0 = s.getD (ch.getD i 0).toNat 0 := by
  rw [bestL, List.getD_eq_getElem?_getD, List.getElem?_map, List.getElem?_eq_getElem hi, List.getD_eq_getElem?_getD (l := ch), List.getElem?_eq_getElem hi]
  rfl
def RouteNo (w : World) (x : Int) (e : Ending) (w' : World) : Prop := e = .returned (.tuple #[.slice none 0 0, .slice none 0 0, .int .i64 x]) ∧ Below w.heap.size w w'
def RouteOk (w : World) (ch sh : List Int) (n : Nat) (e : Ending) (w' : World) : Prop := ∃ A1 c1 A2 c2, e = .returned (.tuple #[.slice A1 n c1, .slice A2 n c2, .int .i64 0]) ∧ RdI w' w'.heap.size .i64 (.slice A1 n c1) ch ∧ RdI w' w'.heap.size .i64 (.slice A2 n c2) sh ∧ Below w.heap.size w w' ∧ Fresh w (.slice A1 n c1) ∧ Fresh w (.slice A2 n c2)

set_option maxRecDepth 100000 in
set_option maxHeartbeats 1600000 in
theorem route_no1 {w : World} {A1 A2 : Option Addr} {L1 c1 n c2 : Nat} {m : Int} {k : Int} (hk : k < 1 ∨ m < k) :
    Calls Try.prog 27 #[.slice A1 L1 c1, .int .i64 m, .int .i64 k, .slice A2 n c2] w (RouteNo w 20) := by
  by_cases h : k < 1
  · go_enter Try.func27, Try.ntmps27
    go_wp2_with fail
    go_ret3
    exact ⟨rfl, Below.refl _ _⟩
  · have h2 : m < k := by omega
    go_enter Try.func27, Try.ntmps27
    go_wp2_with fail
    go_ret3
    exact ⟨rfl, Below.refl _ _⟩
set_option maxRecDepth 100000 in
set_option maxHeartbeats 1600000 in
theorem route_no2 {w : World} {B B' : Nat} {A1 A2 : Option Addr} {L1 c1 n c2 : Nat} {router xs : List Int} {m k : Int} (hr : RdI w B .i8 (.slice A1 L1 c1) router) (hx : RdI w B' .i64 (.slice A2 n c2) xs) (hk1 : 1 ≤ k) (hk2 : k ≤ m) (hno : ¬ MatOk router m xs) (hbig : L1 ≤ 4294967296) :
    Calls Try.prog 27 #[.slice A1 L1 c1, .int .i64 m, .int .i64 k, .slice A2 n c2] w (RouteNo w 21) := by
  have HM := hid_ (mat_no hr hx hno hbig)
  clear hr hx hno
  go_enter Try.func27, Try.ntmps27
  go_wp2_with ((go_at_call 42); (refine HM.out.mono ?_); (rintro e w3 ⟨rfl, hb⟩); (have HB := hid_ hb); (clear hb))
  go_ret3
  exact ⟨rfl, HB.out⟩
set_option maxRecDepth 100000 in
set_option maxHeartbeats 1600000 in
theorem rroute_no1 {w : World} {A1 A2 : Option Addr} {L1 c1 n c2 : Nat} {m : Int} {k : Int} (hk : k < 1 ∨ m < k) :
    Calls Try.prog 28 #[.slice A1 L1 c1, .int .i64 m, .int .i64 k, .slice A2 n c2] w (RouteNo w 20) := by
  by_cases h : k < 1
  · go_enter Try.func28, Try.ntmps28
    go_wp2_with fail
    go_ret3
    exact ⟨rfl, Below.refl _ _⟩
  · have h2 : m < k := by omega
    go_enter Try.func28, Try.ntmps28
    go_wp2_with fail
    go_ret3
    exact ⟨rfl, Below.refl _ _⟩
set_option maxRecDepth 100000 in
set_option maxHeartbeats 1600000 in
theorem rroute_no2 {w : World} {B B' : Nat} {A1 A2 : Option Addr} {L1 c1 n c2 : Nat} {router xs : List Int} {m k : Int} (hr : RdI w B .i8 (.slice A1 L1 c1) router) (hx : RdI w B' .i64 (.slice A2 n c2) xs) (hk1 : 1 ≤ k) (hk2 : k ≤ m) (hno : ¬ MatOk router m xs) (hbig : L1 ≤ 4294967296) :
    Calls Try.prog 28 #[.slice A1 L1 c1, .int .i64 m, .int .i64 k, .slice A2 n c2] w (RouteNo w 21) := by
  have HM := hid_ (rmat_no hr hx hno hbig)
  clear hr hx hno
  go_enter Try.func28, Try.ntmps28
  go_wp2_with ((go_at_call 31); (refine HM.out.mono ?_); (rintro e w3 ⟨rfl, hb⟩); (have HB := hid_ hb); (clear hb))
  go_ret3
  exact ⟨rfl, HB.out⟩

set_option maxRecDepth 100000 in
set_option maxHeartbeats 3200000 in
theorem route_run {w : World} {B B' : Nat} {A1 A2 : Option Addr} {L1 c1 n c2 : Nat} {router xs : List Int} {m : Nat} {k : Int} (hr : RdI w B .i8 (.slice A1 L1 c1) router) (hx : RdI w B' .i64 (.slice A2 n c2) xs) (hw : Wt router) (hk1 : 1 ≤ k) (hk2 : k ≤ (m : Int)) (hn : 0 < n) (hm : L1 = m * n) (hbig : L1 ≤ 4294967296) :
    Calls Try.prog 27 #[.slice A1 L1 c1, .int .i64 (m : Int), .int .i64 k, .slice A2 n c2] w (RouteOk w (routeC router xs m k) (routeP router xs m k) k.toNat) := by
  obtain ⟨q, rfl⟩ : ∃ q : Nat, k = q := ⟨k.toNat, by omega⟩
  rw [Int.toNat_natCast]
  have hM := mat_ok m hr hx hw hn hm hbig
  have hml : (matL router xs m).length = m := matL_length _ _ _
  have hcl : clamp (q : Int) (matL router xs m).length = q := by rw [hml]; unfold clamp; omega
  have hmb : m ≤ 4294967296 := Nat.le_trans (Nat.le_mul_of_pos_right m hn) (by omega)
  have HC : Hid (routeC router xs m q = chosenV (matL router xs m) q) := rfl
  have HBt : Hid (routeB router xs m q = bestL (matL router xs m) (routeC router xs m q)) := rfl
  have HP : Hid (routeP router xs m q = softV (routeB router xs m q)) := rfl
  have hchl : (routeC router xs m q).length = q := by rw [HC.out, chosenV_length, hcl]
  have HAT : Hid (∀ i, i < q → 0 ≤ (routeC router xs m q).getD i 0 ∧ (routeC router xs m q).getD i 0 < (m : Int)) := fun i hi => by
    have h1 := chosenV_at (xs := matL router xs m) (k := q) (i := i) (by rw [hcl]; exact hi)
    rw [hml] at h1
    exact h1
  generalize routeC router xs m q = ch at *
  generalize routeB router xs m q = bs at *
  generalize routeP router xs m q = sp at *
  generalize matL router xs m = l at *
  have HM := hid_ hM
  have HL := hid_ hml
  have HCL := hid_ hcl
  have HCH := hid_ hchl
  have HBL : Hid (bs.length = q) := by show _ = _; rw [HBt.out, bestL_length, hchl]
  have hmk := fun w => make_i64s w q (by omega)
  clear hM hml hcl hchl hr hx hw hm hbig
  go_enter Try.func27, Try.ntmps27
  go_wp2_with (first
    | ((go_at_call 42); (refine HM.out.mono ?_); (rintro e w1 ⟨A, c, rfl, hO, hb⟩); (rw [HL.out] at hO ⊢); (have HS := hid_ (show RdI w1 w1.heap.size .i64 (.slice A m c) l from Rd.of_own hO)); (have HB1 := hid_ hb); (clear hO hb))
    | ((go_at_call 55); (refine (shapeTopF HS.out (by have := HL.out; omega) (q : Int) HCL.out).mono ?_); (rintro e w2 ⟨Ac, cc, rfl, hr, hb, hf2⟩); (have HF1 := hid_ (Fresh.low hf2 HB1.out.size)); (clear hf2); (rw [← HC.out] at hr); (have HB2 := hid_ (below_comp HB1.out hb)); (have HS2 := hid_ (rdi_below HS.out hb)); (have HR := hid_ hr); (clear hb hr)))
  clear HM hmk HS
  go_loopw [42] (fun i wr => ∃ j : Nat, j ≤ q ∧ i = .int .i64 j ∧ Hid (Blk wr w2.heap.size 2 (rowc (fillL bs q j))) ∧ Hid (Upd (fun _ => False) w2 wr)) (fun i _ => q - (intOf i).toNat)
  case atStart => exact ⟨0, Nat.zero_le _, rfl, hid_ (by rw [fillL_zero]; exact Blk.new _ _ _), hid_ ((Upd.refl _ w2).alloc _)⟩
  case round =>
    obtain ⟨j, hj, rfl, HB, HU⟩ := hrel
    by_cases hlt : j < q
    · have hlt' : (j : Int) < (q : Int) := by omega
      obtain ⟨b, o, rfl, d1⟩ := rdi_cell (rdi_below HR.out HU.out.toB) (j := j) (by rw [HCH.out]; exact hlt)
      obtain ⟨h1, h2⟩ := HAT.out j hlt
      have h3 := bestL_at (s := l) (ch := ch) (i := j) (by rw [HCH.out]; exact hlt)
      rw [← HBt.out] at h3
      have hfs := fillL_step HBL.out hlt
      obtain ⟨z, hz⟩ : ∃ z : Nat, ch.getD j 0 = z := ⟨(ch.getD j 0).toNat, by omega⟩
      rw [hz] at d1 h1 h2 h3
      rw [Int.toNat_natCast] at h3
      rw [h3] at hfs
      obtain ⟨b', o', rfl, d2⟩ := rdi_cell (rdi_below HS2.out HU.out.toB) (j := z) (by rw [HL.out]; omega)
      have d3 := rowc_cell HB.out (i := j) (by rw [fillL_length HBL.out hj]; exact hlt)
      have f3 := HB.out.frozen j
      have HFS := hid_ hfs
      clear hz h3 hfs
      generalize l.getD z 0 = y at *
      go_wp2_with fail
      go_roundw
      case rel => exact ⟨j + 1, by omega, by go_num, hid_ (by rw [← HFS.out]; exact rowc_set HB.out j _), hid_ (HU.out.setCell (p := ⟨w2.heap.size, j, none⟩) (.inr (Nat.le_refl _)) _)⟩
      case measure => simp [intOf]; omega
    · obtain rfl : j = q := by omega
      clear hlt
      have hB := HB.out
      rw [fillL_all HBL.out] at hB
      have hS := soft_any (rowc_rd hB (k := j) (c := j) (by rw [HBL.out]; exact Nat.le_refl _) (Nat.le_refl _) (by unfold maxLen; omega)) (by rw [List.length_take, HBL.out]; omega)
      rw [List.take_of_length_le (by rw [HBL.out]; exact Nat.le_refl _), ← HP.out] at hS
      have HSP := hid_ hS
      have HSL : Hid (sp.length = j) := by show _ = _; rw [HP.out, softV_length, HBL.out]
      clear hB hS HB HAT
      go_wp2_with ((go_at_call 56); (refine HSP.out.mono ?_); (rintro e w3 ⟨As, cs, rfl, hO, hb⟩); (rw [HSL.out] at hO ⊢); (have HF2 := hid_ (Fresh.low (fresh_own hO) (Nat.le_trans HB2.out.size HU.out.size))); (have HPP := hid_ (show RdI w3 w3.heap.size .i64 (.slice As j cs) sp from Rd.of_own hO)); (have HRl := hid_ (rdi_below (rdi_below HR.out HU.out.toB) hb)); (have HB3 := hid_ (below_comp (below_comp HB2.out HU.out.toB) hb)); (clear hO hb))
      go_ret3
      exact ⟨Ac, cc, As, cs, rfl, RdI.low HRl.out, HPP.out, HB3.out, HF1.out, HF2.out⟩
end Go.Proofs.Ytlpeijaeiioimaa
