/- The document's Route walked where it answers, and both in one law. -/
import Derived.Test.YtlpeijaeiioimaaRouteW
namespace Go.Proofs.Ytlpeijaeiioimaa
open Go.RowKit

set_option maxRecDepth 100000 in
set_option maxHeartbeats 3200000 in
theorem rroute_run {w : World} {B B' : Nat} {A1 A2 : Option Addr} {L1 c1 n c2 : Nat} {router xs : List Int} {m : Nat} {k : Int} (hr : RdI w B .i8 (.slice A1 L1 c1) router) (hx : RdI w B' .i64 (.slice A2 n c2) xs) (hw : Wt router) (hk1 : 1 ≤ k) (hk2 : k ≤ (m : Int)) (hn : 0 < n) (hm : L1 = m * n) (hbig : L1 ≤ 4294967296) :
    Calls Try.prog 28 #[.slice A1 L1 c1, .int .i64 (m : Int), .int .i64 k, .slice A2 n c2] w (RouteOk w (routeC router xs m k) (routeP router xs m k) k.toNat) := by
  obtain ⟨i0, hi0, hz0, hz1, hz2⟩ := info_parts Try.infoI64_
  obtain ⟨q, rfl⟩ : ∃ q : Nat, k = q := ⟨k.toNat, by omega⟩
  rw [Int.toNat_natCast]
  have hM := rmat_ok m hr hx hw hn hm hbig
  have hml : (matL router xs m).length = m := matL_length _ _ _
  have hcl : clamp (q : Int) (matL router xs m).length = q := by rw [hml]; unfold clamp; omega
  have hmb : m ≤ 4294967296 := Nat.le_trans (Nat.le_mul_of_pos_right m hn) (by omega)
  have HC : Hid (routeC router xs m q = chosenV (matL router xs m) q) := rfl
  have HBt : Hid (routeB router xs m q = bestL (matL router xs m) (routeC router xs m q)) := rfl
  have HP : Hid (routeP router xs m q = softV (routeB router xs m q)) := rfl
  have hchl : (routeC router xs m q).length = q := by rw [HC.out, chosenV_length, hcl]
  have HAT : Hid (∀ i, i < q → 0 ≤ (routeC router xs m q).getD i 0 ∧ (routeC router xs m q).getD i 0 < (m : Int)) := fun i hi => by
    have h1 := chosenV_at (xs := matL router xs m) (k := q) (i := i) (by rw [hcl]; exact hi)
    rw [hml] at h1
    exact h1
  generalize routeC router xs m q = ch at *
  generalize routeB router xs m q = bs at *
  generalize routeP router xs m q = sp at *
  generalize matL router xs m = l at *
  have HM := hid_ hM
  have HL := hid_ hml
  have HCL := hid_ hcl
  have HCH := hid_ hchl
  have HBL : Hid (bs.length = q) := by show _ = _; rw [HBt.out, bestL_length, hchl]
  clear hM hml hcl hchl hr hx hw hm hbig
  go_enter Try.func28, Try.ntmps28
  go_wp2_with (first
    | ((go_at_call 31); (refine HM.out.mono ?_); (rintro e w1 ⟨A, c, rfl, hO, hb⟩); (rw [HL.out] at hO ⊢); (have HS := hid_ (show RdI w1 w1.heap.size .i64 (.slice A m c) l from Rd.of_own hO)); (have HB1 := hid_ hb); (clear hO hb))
    | ((go_at_call 57); (refine (rshapeTopF HS.out (by have := HL.out; omega) (q : Int) HCL.out).mono ?_); (rintro e w2 ⟨Ac, cc, rfl, hr, hb, hf2⟩); (have HF1 := hid_ (Fresh.low hf2 HB1.out.size)); (clear hf2); (rw [← HC.out] at hr); (have HB2 := hid_ (below_comp HB1.out hb)); (have HS2 := hid_ (rdi_below HS.out hb)); (have HR := hid_ hr); (clear hb hr)))
  clear HM HS
  go_loopg [14, 15] q (fun g sv iv wr => ∃ (j c3 : Nat) (A3 : Option Addr), j ≤ q ∧ q ≤ g + j ∧ iv = .int .i64 j ∧ sv = .slice A3 j c3 ∧ Hid (wr.ownsRow w2.heap.size 2 1 (.slice A3 j c3) j ((bs.take j).map (Value.int .i64))) ∧ Hid (Upd (fun _ => False) w2 wr))
  case atStart => exact ⟨0, 0, none, Nat.zero_le _, by omega, rfl, rfl, hid_ (World.ownsRow_nil _ _ _ _), hid_ (Upd.refl _ _)⟩
  case round =>
    obtain ⟨j, c3, A3, hj, hg, rfl, rfl, HO, HU⟩ := hrel
    by_cases hlt : j < q
    · have hlt' : (j : Int) < (q : Int) := by omega
      obtain ⟨b, o, rfl, d1⟩ := rdi_cell (rdi_below HR.out HU.out.toB) (j := j) (by rw [HCH.out]; exact hlt)
      obtain ⟨h1, h2⟩ := HAT.out j hlt
      have h3 := bestL_at (s := l) (ch := ch) (i := j) (by rw [HCH.out]; exact hlt)
      rw [← HBt.out] at h3
      have htk := take_snoc_ bs (k := j) (by rw [HBL.out]; exact hlt)
      obtain ⟨z, hz⟩ : ∃ z : Nat, ch.getD j 0 = z := ⟨(ch.getD j 0).toNat, by omega⟩
      rw [hz] at d1 h1 h2 h3
      rw [Int.toNat_natCast] at h3
      rw [h3] at htk
      obtain ⟨b', o', rfl, d2⟩ := rdi_cell (rdi_below HS2.out HU.out.toB) (j := z) (by rw [HL.out]; omega)
      have HTK := hid_ htk
      clear hz h3 htk
      generalize l.getD z 0 = y at *
      generalize bs.take j = pre at *
      have hfin : ∀ (v' : Value) (w5 : World), w5.ownsRow w2.heap.size 2 1 v' (j + 1) (pre.map (Value.int .i64) ++ [.int .i64 y]) → (wr.alloc (.cells #[.int .i64 y] 2)).grownBy w5 (Value.slice A3 j c3).ownBlock →
          ∃ A5 c5, v' = .slice A5 (j + 1) c5 ∧ w5.ownsRow w2.heap.size 2 1 (.slice A5 (j + 1) c5) (j + 1) ((bs.take (j + 1)).map (Value.int .i64)) ∧ Upd (fun _ => False) w2 w5 := by
        intro v' w5 h5 hg5
        obtain ⟨A5, c5, rfl⟩ := own_slice_ h5
        refine ⟨A5, c5, rfl, ?_, app_upd1 HO.out HU.out (Nat.le_refl _) hg5⟩
        rw [HTK.out, List.map_append]
        exact h5
      have HF := hid_ hfin
      have hszj := HU.out.size
      clear hfin
      go_wp2_with (at_builtin; refine wpList_append_own _ rfl (.tmp 42) (.tmp 50) 23 rfl w2.heap.size 2 i0 (.int .i64 0) 1 8 Try.underlying23 hi0 hz0 hz1 hz2 rfl (by decide) _ j _ rfl (HO.out.alloc _) ⟨wr.heap.size, 0, none⟩ 1 1 [.int .i64 y] rfl rfl (one_new rfl) (one_cell rfl) ?c3 ?c4 ?c5 ?_)
      case c3 => unfold maxLen; omega
      case c4 => omega
      case c5 => simp; omega
      intro v' w5 h5 hg5 _
      obtain ⟨A5, c5, rfl, hO5, hU5⟩ := HF.out v' w5 h5 hg5
      have HO5 := hid_ hO5
      have HU5 := hid_ hU5
      clear h5 hg5 hO5 hU5 HF
      go_wp2_with fail
      go_roundg (q - (j + 1))
      case measure => omega
      case rel => exact ⟨j + 1, c5, A5, by omega, by omega, by go_num, rfl, HO5, HU5⟩
    · obtain rfl : j = q := by omega
      clear hlt
      have hO := HO.out
      rw [List.take_of_length_le (by rw [HBL.out]; exact Nat.le_refl _)] at hO
      have hS := rsoft_any (show RdI wr wr.heap.size .i64 (.slice A3 j c3) bs from Rd.of_own hO) (by rw [HBL.out]; omega)
      rw [← HP.out] at hS
      have HSP := hid_ hS
      have HSL : Hid (sp.length = j) := by show _ = _; rw [HP.out, softV_length, HBL.out]
      clear hO hS HO HAT
      go_wp2_with ((go_at_call 58); (refine HSP.out.mono ?_); (rintro e w3 ⟨As, cs, rfl, hO, hb⟩); (rw [HSL.out] at hO ⊢); (have HF2 := hid_ (Fresh.low (fresh_own hO) (Nat.le_trans HB2.out.size HU.out.size))); (have HPP := hid_ (show RdI w3 w3.heap.size .i64 (.slice As j cs) sp from Rd.of_own hO)); (have HRl := hid_ (rdi_below (rdi_below HR.out HU.out.toB) hb)); (have HB3 := hid_ (below_comp (below_comp HB2.out HU.out.toB) hb)); (clear hO hb))
      go_ret3
      exact ⟨Ac, cc, As, cs, rfl, RdI.low HRl.out, HPP.out, HB3.out, HF1.out, HF2.out⟩

/-- What a route answers: the chosen ones, their shares, or what was wrong. -/
def RouteAny (w : World) (router xs : List Int) (m : Nat) (k : Int) (e : Ending) (w' : World) : Prop :=
  if routeE router xs m k = 0 then RouteOk w (routeC router xs m k) (routeP router xs m k) k.toNat e w' else RouteNo w (routeE router xs m k) e w'

theorem route_any {w : World} {B B' : Nat} {A1 A2 : Option Addr} {L1 c1 n c2 : Nat} {router xs : List Int} {m : Nat} {k : Int} (hr : RdI w B .i8 (.slice A1 L1 c1) router) (hx : RdI w B' .i64 (.slice A2 n c2) xs) (hw : Wt router) (hbig : L1 ≤ 4294967296) :
    Calls Try.prog 27 #[.slice A1 L1 c1, .int .i64 (m : Int), .int .i64 k, .slice A2 n c2] w (RouteAny w router xs m k) := by
  by_cases h1 : k < 1 ∨ (m : Int) < k
  · have hE : routeE router xs m k = 20 := by unfold routeE; rw [if_pos h1]
    refine (route_no1 h1).mono ?_
    intro e w' h
    unfold RouteAny
    rw [hE, if_neg (by decide)]
    exact h
  · by_cases h2 : MatOk router m xs
    · have hE : routeE router xs m k = 0 := by unfold routeE; rw [if_neg h1, if_pos h2]
      have h3 := h2
      unfold MatOk at h3
      rw [(rdi_len hx).1, (rdi_len hr).1] at h3
      refine (route_run hr hx hw (by omega) (by omega) (by omega) (by first | exact h3.2.2 | (have := h3.2.2; push_cast at this; exact_mod_cast this) | (norm_cast at h3; omega)) hbig).mono ?_
      intro e w' h
      unfold RouteAny
      rw [hE, if_pos rfl]
      exact h
    · have hE : routeE router xs m k = 21 := by unfold routeE; rw [if_neg h1, if_neg h2]
      refine (route_no2 hr hx (by omega) (by omega) h2 hbig).mono ?_
      intro e w' h
      unfold RouteAny
      rw [hE, if_neg (by decide)]
      exact h
theorem rroute_any {w : World} {B B' : Nat} {A1 A2 : Option Addr} {L1 c1 n c2 : Nat} {router xs : List Int} {m : Nat} {k : Int} (hr : RdI w B .i8 (.slice A1 L1 c1) router) (hx : RdI w B' .i64 (.slice A2 n c2) xs) (hw : Wt router) (hbig : L1 ≤ 4294967296) :
    Calls Try.prog 28 #[.slice A1 L1 c1, .int .i64 (m : Int), .int .i64 k, .slice A2 n c2] w (RouteAny w router xs m k) := by
  by_cases h1 : k < 1 ∨ (m : Int) < k
  · have hE : routeE router xs m k = 20 := by unfold routeE; rw [if_pos h1]
    refine (rroute_no1 h1).mono ?_
    intro e w' h
    unfold RouteAny
    rw [hE, if_neg (by decide)]
    exact h
  · by_cases h2 : MatOk router m xs
    · have hE : routeE router xs m k = 0 := by unfold routeE; rw [if_neg h1, if_pos h2]
      have h3 := h2
      unfold MatOk at h3
      rw [(rdi_len hx).1, (rdi_len hr).1] at h3
      refine (rroute_run hr hx hw (by omega) (by omega) (by omega) (by first | exact h3.2.2 | (have := h3.2.2; push_cast at this; exact_mod_cast this) | (norm_cast at h3; omega)) hbig).mono ?_
      intro e w' h
      unfold RouteAny
      rw [hE, if_pos rfl]
      exact h
    · have hE : routeE router xs m k = 21 := by unfold routeE; rw [if_neg h1, if_neg h2]
      refine (rroute_no2 hr hx (by omega) (by omega) h2 hbig).mono ?_
      intro e w' h
      unfold RouteAny
      rw [hE, if_neg (by decide)]
      exact h
end Go.Proofs.Ytlpeijaeiioimaa
