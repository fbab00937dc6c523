/- One network, the document's, walked. Conditions: the slices read as the lists; weights are of 8 bits. -/
import Derived.Test.YtlpeijaeiioimaaExpertW
namespace Go.Proofs.Ytlpeijaeiioimaa
open Go.RowKit

theorem map_take_succ (f : Int → Int) (l : List Int) {k : Nat} (hk : k < l.length) : (l.take (k + 1)).map f = (l.take k).map f ++ [f (l.getD k 0)] := by
  rw [List.take_succ_eq_append_getElem hk, List.map_append, List.getD_eq_getElem?_getD, List.getElem?_eq_getElem hk]
  rfl

set_option maxRecDepth 100000 in
set_option maxHeartbeats 1600000 in
theorem rone_no1 {w : World} {B B' : Nat} {A1 A2 A3 : Option Addr} {L1 c1 L2 c2 n c3 : Nat} {up xs : List Int} {hidden : Int} (hu : RdI w B .i8 (.slice A1 L1 c1) up) (hx : RdI w B' .i64 (.slice A3 n c3) xs) (hno : ¬ MatOk up hidden xs) (hbig : L1 ≤ 4294967296) :
    Calls Try.prog 14 #[.slice A1 L1 c1, .slice A2 L2 c2, .int .i64 hidden, .slice A3 n c3] w (RowNo w 21) := by
  have HM := hid_ (rmat_no hu hx hno hbig)
  clear hu hx hno
  go_enter Try.func14, Try.ntmps14
  go_wp2_with ((go_at_call 31); (refine HM.out.mono ?_); (rintro e w3 ⟨rfl, hb⟩); (have HB := hid_ hb); (clear hb))
  go_ret2
  exact ⟨rfl, HB.out⟩

set_option maxRecDepth 100000 in
set_option maxHeartbeats 3200000 in
theorem rone_run {w : World} {B B' B2 : Nat} {A1 A2 A3 : Option Addr} {L1 c1 L2 c2 n c3 : Nat} {up down xs : List Int} {r : Option (List Int)} (m : Nat) (hu : RdI w B .i8 (.slice A1 L1 c1) up) (hd : RdI w B2 .i8 (.slice A2 L2 c2) down) (hx : RdI w B' .i64 (.slice A3 n c3) xs) (hwu : Wt up) (hwd : Wt down) (hn : 0 < n) (hm : L1 = m * n) (hbig : L1 ≤ 4294967296) (hbig2 : L2 ≤ 4294967296)
    (hr : r = if MatOk down xs.length (oneIn up xs m) then some (matL down (oneIn up xs m) xs.length) else none) :
    Calls Try.prog 14 #[.slice A1 L1 c1, .slice A2 L2 c2, .int .i64 (m : Int), .slice A3 n c3] w (RowRes w r) := by
  obtain ⟨i0, hi0, hz0, hz1, hz2⟩ := info_parts Try.infoI64_
  have hM := rmat_ok m hu hx hwu hn hm hbig
  obtain ⟨hxl, hnc, hnm⟩ := rdi_len hx
  unfold maxLen at hnm
  have hil : (matL up xs m).length = m := matL_length _ _ _
  have HIN : Hid (oneIn up xs m = (matL up xs m).map siluV) := by show _ = _; rw [oneIn, Int.toNat_natCast]
  have hmb : m ≤ 4294967296 := Nat.le_trans (Nat.le_mul_of_pos_right m hn) (by omega)
  generalize oneIn up xs m = inn at *
  generalize matL up xs m = l at *
  have HM := hid_ hM
  have HL := hid_ hil
  have HD := hid_ hd
  have HX := hid_ hx
  have HW := hid_ hwd
  have HRR := hid_ hr
  have HXL := hid_ hxl
  clear hM hil hd hx hwd hr hu hm hwu hbig hxl
  go_enter Try.func14, Try.ntmps14
  go_wp2_with ((go_at_call 31); (refine HM.out.mono ?_); (rintro e w3 ⟨A, c, rfl, hO, hb⟩); (rw [HL.out] at hO ⊢); (have HO := hid_ hO); (have HU3 := hid_ (Upd.of_below (S := fun _ => False) hb)); (clear hb hO))
  have HLR : Hid (RdI w3 w3.heap.size .i64 (.slice A m c) l) := Rd.of_own HO.out
  clear HM HO
  go_loopg [12, 13] m (fun g ov iv wr => ∃ (i c2 : Nat) (A2 : Option Addr), i ≤ m ∧ m ≤ g + i ∧ iv = .int .i64 i ∧ ov = .slice A2 i c2 ∧ Hid (wr.ownsRow w3.heap.size 2 1 (.slice A2 i c2) i (((l.take i).map siluV).map (Value.int .i64))) ∧ Hid (Upd (fun _ => False) w3 wr))
  case atStart => exact ⟨0, 0, none, Nat.zero_le _, by omega, rfl, rfl, hid_ (World.ownsRow_nil _ _ _ _), hid_ (Upd.refl _ _)⟩
  case round =>
    obtain ⟨i, c2, A2, him, hg, rfl, rfl, HO, HU⟩ := hrel
    by_cases hlt : i < m
    · have hlt' : (i : Int) < (m : Int) := by omega
      have hkl : i < l.length := by rw [HL.out]; exact hlt
      obtain ⟨b, o, rfl, cc⟩ := rdi_cell (rdi_below HLR.out HU.out.toB) hkl
      have HS := hid_ (map_take_succ siluV l hkl)
      clear hkl
      generalize l.getD i 0 = x at *
      generalize (l.take i).map siluV = pre at *
      obtain ⟨r9, hr9⟩ : ∃ r9, siluV x = r9 := ⟨_, rfl⟩
      have hsil := rsilu_any wr x
      rw [hr9] at hsil HS
      have HSIL := hid_ hsil
      clear hr9 hsil
      have hfin : ∀ (v' : Value) (w1 w5 : World), Below wr.heap.size wr w1 → w5.ownsRow w3.heap.size 2 1 v' (i + 1) (pre.map (Value.int .i64) ++ [.int .i64 r9]) → (w1.alloc (.cells #[.int .i64 r9] 2)).grownBy w5 (Value.slice A2 i c2).ownBlock →
          ∃ A5 c5, v' = .slice A5 (i + 1) c5 ∧ w5.ownsRow w3.heap.size 2 1 (.slice A5 (i + 1) c5) (i + 1) (((l.take (i + 1)).map siluV).map (Value.int .i64)) ∧ Upd (fun _ => False) w3 w5 := by
        intro v' w1 w5 hw1 h5 hg5
        obtain ⟨A5, c5, rfl⟩ := own_slice_ h5
        refine ⟨A5, c5, rfl, ?_, app_upd1 (own_below HO.out hw1) (HU.out.below hw1) (Nat.le_refl _) hg5⟩
        rw [HS.out, List.map_append]
        exact h5
      have HF := hid_ hfin
      clear hfin
      go_wp2_with (first
        | ((go_at_call 44); (refine HSIL.out.mono ?_); (rintro e w1 ⟨rfl, hb⟩); (have HO1 := hid_ (own_below HO.out hb)); (have HD1 := hid_ hb); (have hsz : w3.heap.size ≤ w1.heap.size := Nat.le_trans HU.out.size hb.size); (clear hb))
        | (at_builtin; refine wpList_append_own _ rfl (.tmp 30) (.tmp 36) 23 rfl w3.heap.size 2 i0 (.int .i64 0) 1 8 Try.underlying23 hi0 hz0 hz1 hz2 rfl (by decide) _ i _ rfl (HO1.out.alloc _) ⟨w1.heap.size, 0, none⟩ 1 1 [.int .i64 r9] rfl rfl (one_new rfl) (one_cell rfl) ?c3 ?c4 ?c5 ?_))
      case c3 => unfold maxLen; omega
      case c4 => omega
      case c5 => simp; omega
      intro v' w5 h5 hg5 _
      obtain ⟨A5, c5, rfl, hO5, hU5⟩ := HF.out v' w1 w5 HD1.out h5 hg5
      have HO5 := hid_ hO5
      have HU5 := hid_ hU5
      clear h5 hg5 hO5 hU5 HF
      go_wp2_with fail
      go_roundg (m - (i + 1))
      case measure => omega
      case rel => exact ⟨i + 1, c5, A5, by omega, by omega, by go_num, rfl, HO5, HU5⟩
    · obtain rfl : i = m := by omega
      have hinn : RdI wr wr.heap.size .i64 (.slice A2 i c2) inn := by
        have h1 := HO.out
        rw [List.take_of_length_le (by rw [HL.out]; exact Nat.le_refl _), ← HIN.out] at h1
        exact Rd.of_own h1
      have hdn := rdi_below HD.out (HU3.out.trans' HU.out).toB
      by_cases hok : MatOk down xs.length inn
      · have hrr := HRR.out
        rw [if_pos hok] at hrr
        subst hrr
        unfold MatOk at hok
        obtain ⟨hil, hc9, hm9⟩ := rdi_len hinn
        rw [hil, (rdi_len hdn).1, HXL.out] at hok
        obtain ⟨o1, o2, o3⟩ := hok
        have hM := rmat_ok n hdn hinn HW.out o1 (by rw [← Int.natCast_mul] at o3; exact Int.ofNat.inj o3) hbig2
        have hl9 := matL_length down inn n
        have HQ9 : Hid (matL down inn xs.length = matL down inn n) := by show _ = _; rw [HXL.out]
        generalize hq9 : matL down inn n = l9 at *
        clear hq9
        have HM := hid_ hM
        have HL9 := hid_ hl9
        clear hM hl9 o1 o2 o3 hdn hinn hil hc9 hm9 HRR
        go_wp2_with ((go_at_call 31); (refine HM.out.mono ?_); (rintro e w6 ⟨A6, c6, rfl, hO6, hb⟩); (rw [HL9.out] at hO6 ⊢); (have HO6 := hid_ hO6); (have HB6 := hid_ hb); (clear hb hO6))
        go_ret2
        show RowOk w _ _ _
        rw [HQ9.out]
        refine ⟨A6, c6, by rw [HL9.out]; rfl, ?_, below_comp (HU3.out.trans' HU.out).toB HB6.out⟩
        rw [HL9.out]
        exact own_base HO6.out (HU3.out.trans' HU.out).size
      · have hrr := HRR.out
        rw [if_neg hok] at hrr
        subst hrr
        have hM := rmat_no hdn hinn hok hbig2
        rw [HXL.out] at hM
        have HM := hid_ hM
        clear hM hok hdn hinn HRR
        go_wp2_with ((go_at_call 31); (refine HM.out.mono ?_); (rintro e w6 ⟨rfl, hb⟩); (have HB6 := hid_ hb); (clear hb))
        go_ret2
        exact ⟨rfl, below_comp (HU3.out.trans' HU.out).toB HB6.out⟩

theorem rone_any {w : World} {B B' B2 : Nat} {A1 A2 A3 : Option Addr} {L1 c1 L2 c2 n c3 : Nat} {up down xs : List Int} {hidden : Int} (hu : RdI w B .i8 (.slice A1 L1 c1) up) (hd : RdI w B2 .i8 (.slice A2 L2 c2) down) (hx : RdI w B' .i64 (.slice A3 n c3) xs) (hwu : Wt up) (hwd : Wt down) (hbig : L1 ≤ 4294967296) (hbig2 : L2 ≤ 4294967296) :
    Calls Try.prog 14 #[.slice A1 L1 c1, .slice A2 L2 c2, .int .i64 hidden, .slice A3 n c3] w (RowRes w (oneV up down hidden xs)) := by
  by_cases h : MatOk up hidden xs
  · have h' := h
    unfold MatOk at h'
    obtain ⟨h1, h2, h3⟩ := h'
    obtain ⟨m, rfl⟩ : ∃ m : Nat, hidden = m := ⟨hidden.toNat, by omega⟩
    refine rone_run m hu hd hx hwu hwd (by rw [← (rdi_len hx).1]; exact h1) ?_ hbig hbig2 ?_
    · rw [← (rdi_len hu).1, ← (rdi_len hx).1]
      rw [← Int.natCast_mul] at h3
      exact Int.ofNat.inj h3
    · unfold oneV
      by_cases h4 : MatOk down xs.length (oneIn up xs m)
      · rw [if_pos ⟨h, h4⟩, if_pos h4]
      · rw [if_neg (fun h5 => h4 h5.2), if_neg h4]
  · rw [oneV, if_neg (fun h5 => h h5.1)]
    exact rone_no1 hu hx h hbig
end Go.Proofs.Ytlpeijaeiioimaa
