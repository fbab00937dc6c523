/- DrawShares walked: it returns true. No condition beyond the reading of the arguments. -/
import Derived.Test.YtfinbkpmkgpffaaDrawBestW
namespace Go.Proofs.Ytfinbkpmkgpffaa
open Go.RowKit Go.ChangeShapes Go.WideShapes Go.ChangeAt

theorem many_is (n : Int) : ∃ m : Nat, wrap64 (2 + wrap64 ((IntKind.u64.wrap n).tmod 6)) = (m : Int) ∧ 2 ≤ m ∧ m ≤ 7 := by
  rw [IntKind.wrap_u64, tmod_of_emod]
  have h : 0 ≤ n % 18446744073709551616 % 6 ∧ n % 18446744073709551616 % 6 < 6 := by omega
  generalize n % 18446744073709551616 % 6 = z at h ⊢
  rw [w64_id (x := z) (by unfold InI64; omega), w64_id (by unfold InI64; omega)]
  exact ⟨(2 + z).toNat, by omega, by omega, by omega⟩
theorem warm_is (n : Int) : ∃ h : Int, wrap64 (1 + wrap64 ((IntKind.u64.wrap n).tmod 1073741824)) = h ∧ 1 ≤ h := by
  rw [IntKind.wrap_u64, tmod_of_emod]
  have h : 0 ≤ n % 18446744073709551616 % 1073741824 ∧ n % 18446744073709551616 % 1073741824 < 1073741824 := by omega
  generalize n % 18446744073709551616 % 1073741824 = z at h ⊢
  rw [w64_id (x := z) (by unfold InI64; omega), w64_id (by unfold InI64; omega)]
  exact ⟨1 + z, rfl, by omega⟩
theorem share_is {m : Nat} (h1 : 2 ≤ m) (h2 : m ≤ 7) : ∃ s : Nat, (65536 : Int).tdiv (m : Int) = (s : Int) ∧ (65536 / (m : Int)) = (s : Int) ∧ 1 ≤ s ∧ s ≤ 32768 := by
  have hn : m = 2 ∨ m = 3 ∨ m = 4 ∨ m = 5 ∨ m = 6 ∨ m = 7 := by omega
  rcases hn with rfl | rfl | rfl | rfl | rfl | rfl
  · exact ⟨32768, by decide, by decide, by decide, by decide⟩
  · exact ⟨21845, by decide, by decide, by decide, by decide⟩
  · exact ⟨16384, by decide, by decide, by decide, by decide⟩
  · exact ⟨13107, by decide, by decide, by decide, by decide⟩
  · exact ⟨10922, by decide, by decide, by decide, by decide⟩
  · exact ⟨9362, by decide, by decide, by decide, by decide⟩
set_option maxRecDepth 100000 in
set_option maxHeartbeats 3200000 in
theorem drawShares_walk (w : World) (n v heat : Int) :
    Calls Try.prog 14 #[.int .i64 n, .int .i64 v, .int .i64 heat] w (TruePost w) := by
  obtain ⟨i0, hi0, hz0, hz1, hz2⟩ := info_parts Try.infoI64s
  have HW := hid_ (works18_any w)
  obtain ⟨m, hm, hm1, hm2⟩ := many_is n
  obtain ⟨hh, hhe, hh1⟩ := warm_is heat
  go_enter Try.func14, Try.ntmps14
  go_upto_region 5 with ((go_at_call 42); (refine HW.out.mono ?_); (rintro e w1 ⟨rfl, hb⟩); (have HB1 := hid_ hb); (clear hb))
  rw [hm, hhe]
  clear HW hm hhe
  go_wp2_with fail
  go_loopg [7, 8] m (fun g ov iv wr => ∃ (i c2 : Nat) (A2 : Option Addr), i ≤ m ∧ m ≤ g + i ∧ iv = .int .i64 i ∧ ov = .slice A2 i c2 ∧ Hid (wr.ownsRow w1.heap.size 2 1 (.slice A2 i c2) i ((List.replicate i v).map (Value.int .i64))) ∧ Hid (Upd (fun _ => False) w1 wr))
  case atStart => exact ⟨0, 0, none, Nat.zero_le _, by omega, rfl, rfl, hid_ (World.ownsRow_nil _ _ _ _), hid_ (Upd.refl _ _)⟩
  case round =>
    obtain ⟨i, c2, A2, him, hg, rfl, rfl, HO, HU⟩ := hrel
    by_cases hlt : i < m
    · have hlt' : (i : Int) < (m : Int) := by omega
      have hfin : ∀ (v' : Value) (w5 : World), w5.ownsRow w1.heap.size 2 1 v' (i + 1) ((List.replicate i v).map (Value.int .i64) ++ [.int .i64 v]) → (wr.alloc (.cells #[.int .i64 v] 2)).grownBy w5 (Value.slice A2 i c2).ownBlock →
          ∃ A5 c5, v' = .slice A5 (i + 1) c5 ∧ w5.ownsRow w1.heap.size 2 1 (.slice A5 (i + 1) c5) (i + 1) ((List.replicate (i + 1) v).map (Value.int .i64)) ∧ Upd (fun _ => False) w1 w5 := by
        intro v' w5 h5 hg5
        obtain ⟨A5, c5, rfl⟩ := own_slice_ h5
        refine ⟨A5, c5, rfl, ?_, app_upd1 HO.out HU.out (Nat.le_refl _) hg5⟩
        rw [List.replicate_succ', List.map_append]
        exact h5
      have HF := hid_ hfin
      have hsz := HU.out.size
      clear hfin
      generalize List.replicate i v = pre at *
      go_wp2_with (at_builtin; refine wpList_append_own _ rfl (.tmp 28) (.tmp 30) 29 rfl w1.heap.size 2 i0 (.int .i64 0) 1 8 Try.underlying29 hi0 hz0 hz1 hz2 rfl (by decide) _ i _ rfl (HO.out.alloc _) ⟨wr.heap.size, 0, none⟩ 1 1 [.int .i64 v] rfl rfl (one_new rfl) (one_cell rfl) ?c3 ?c4 ?c5 ?_)
      case c3 => unfold maxLen; omega
      case c4 => omega
      case c5 => simp; omega
      intro v' w5 h5 hg5 _
      obtain ⟨A5, c5, rfl, hO5, hU5⟩ := HF.out v' w5 h5 hg5
      have HO5 := hid_ hO5
      have HU5 := hid_ hU5
      clear h5 hg5 hO5 hU5 HF
      go_wp2_with fail
      go_roundg (m - (i + 1))
      case measure => omega
      case rel => exact ⟨i + 1, c5, A5, by omega, by omega, by go_num, rfl, HO5, HU5⟩
    · obtain rfl : i = m := by omega
      clear hlt him hg
      have HX := hid_ (show At1 w (.slice A2 i c2) (List.replicate i v) wr from ⟨Rd.of_own HO.out, below_comp HB1.out HU.out.toB⟩)
      clear HO HU HB1
      obtain ⟨s, hs, hs2, hs3, hs4⟩ := share_is hm1 hm2
      have hne : ((i : Int) == 0) = false := beq_eq_false_iff_ne.2 (by omega)
      have s1 : IntKind.u64.wrap (s : Int) = (s : Int) := by rw [IntKind.wrap_u64]; omega
      have HC1 : ∀ (j : Nat) w1, j < i → Hid (At1 w (.slice A2 i c2) (List.replicate i v) w1 → Calls Try.prog 40 #[.slice A2 i c2, .int .i64 i, .int .i64 hh, .int .u64 ((j : Int) * s)] w1 (DrawnInt w1 j)) := fun j w1 hj h => by
        have := choose_any (k := i) (heat := hh) (u := (j : Int) * s) h.r (Int.mul_nonneg (by omega) (by omega)) (by have : (j : Int) * s ≤ 7 * 32768 := Int.mul_le_mul (by omega) (by omega) (by omega) (by omega); omega) (by omega)
        have e := same_low hm1 hm2 hj (v := v) hh1
        rw [hs2] at e
        rw [e] at this
        exact this
      have HC2 : ∀ (j : Nat) w1, j < i → Hid (At1 w (.slice A2 i c2) (List.replicate i v) w1 → Calls Try.prog 40 #[.slice A2 i c2, .int .i64 i, .int .i64 hh, .int .u64 (((j : Int) + 1) * s - 1)] w1 (DrawnInt w1 j)) := fun j w1 hj h => by
        have b2 : (1 : Int) * 1 ≤ ((j : Int) + 1) * s := Int.mul_le_mul (by omega) (by omega) (by omega) (by omega)
        have := choose_any (k := i) (heat := hh) (u := ((j : Int) + 1) * s - 1) h.r (by omega) (by have : ((j : Int) + 1) * s ≤ 7 * 32768 := Int.mul_le_mul (by omega) (by omega) (by omega) (by omega); omega) (by omega)
        have e := same_high hm1 hm2 hj (v := v) hh1
        rw [hs2] at e
        rw [e] at this
        exact this
      have HC3 : ∀ w1, Hid (At1 w (.slice A2 i c2) (List.replicate i v) w1 → Calls Try.prog 40 #[.slice A2 i c2, .int .i64 i, .int .i64 hh, .int .u64 ((i : Int) * s)] w1 (DrawnInt w1 0)) := fun w1 h => by
        have := choose_any (k := i) (heat := hh) (u := (i : Int) * s) h.r (Int.mul_nonneg (by omega) (by omega)) (by have : (i : Int) * s ≤ 7 * 32768 := Int.mul_le_mul (by omega) (by omega) (by omega) (by omega); omega) (by omega)
        have e := same_round hm1 hm2 (v := v) hh1
        rw [hs2] at e
        rw [e] at this
        exact this
      have m1 : ∀ j : Nat, j ≤ i → IntKind.u64.wrap ((j : Int) * s) = (j : Int) * s := fun j hj => by
        have h1 : (j : Int) * s ≤ 7 * 32768 := Int.mul_le_mul (by omega) (by omega) (by omega) (by omega)
        have h2 : 0 ≤ (j : Int) * s := Int.mul_nonneg (by omega) (by omega)
        rw [IntKind.wrap_u64]; omega
      clear hs2
      generalize List.replicate i v = xs at *
      go_wp2_with fail
      obtain ⟨wo, hwo⟩ : ∃ wo : World, wo = wr := ⟨_, rfl⟩
      rw [← hwo] at HX ⊢
      clear hwo
      go_loopw [10] (fun iv wr2 => ∃ j : Nat, j ≤ i ∧ iv = .int .i64 j ∧ Hid (At1 w (.slice A2 i c2) xs wr2)) (fun iv _ => i - (intOf iv).toNat)
      case atStart => exact ⟨0, Nat.zero_le _, rfl, HX⟩
      case round =>
        obtain ⟨j, hj, rfl, HX1⟩ := hrel
        by_cases hlt : j < i
        · have hlt' : (j : Int) < (i : Int) := by omega
          have j1 : IntKind.u64.wrap (j : Int) = (j : Int) := by rw [IntKind.wrap_u64]; omega
          have j2 : IntKind.u64.wrap ((j : Int) + 1) = (j : Int) + 1 := by rw [IntKind.wrap_u64]; omega
          have j3 := m1 j (by omega)
          have j4 := m1 (j + 1) (by omega)
          rw [show (((j + 1 : Nat) : Int)) = (j : Int) + 1 from by omega] at j4
          have j5 : IntKind.u64.wrap (((j : Int) + 1) * s - 1) = ((j : Int) + 1) * s - 1 := by
            have b1 : ((j : Int) + 1) * s ≤ 7 * 32768 := Int.mul_le_mul (by omega) (by omega) (by omega) (by omega)
            have b2 : (1 : Int) * 1 ≤ ((j : Int) + 1) * s := Int.mul_le_mul (by omega) (by omega) (by omega) (by omega)
            rw [IntKind.wrap_u64]; omega
          have HD1 := fun w1 => HC1 j w1 hlt
          have HD2 := fun w1 => HC2 j w1 hlt
          clear m1 HC1 HC2 HC3
          have K1 : Hid True := trivial
          go_wp2_with (first
            | ((go_at_call 40); (have h9 := K1); (clear h9); (refine ((HD1 _).out HX1.out).mono ?_); (rintro e w2 ⟨rfl, hb⟩); (have HX2 := hid_ (HX1.out.next hb)); (clear hb HX1 K1); (have K2 : Hid True := trivial))
            | ((go_at_call 40); (have h9 := K2); (clear h9); (refine ((HD2 _).out HX2.out).mono ?_); (rintro e w3 ⟨rfl, hb⟩); (have HX3 := hid_ (HX2.out.next hb)); (clear hb HX2 K2)))
          go_roundw
          case rel => exact ⟨j + 1, by omega, by go_num, HX3⟩
          case measure => simp [intOf]; omega
        · obtain rfl : j = i := by omega
          clear hlt hj
          have j1 : IntKind.u64.wrap (j : Int) = (j : Int) := by rw [IntKind.wrap_u64]; omega
          have j3 := m1 j (by omega)
          clear m1 HC1 HC2
          go_wp2_with ((go_at_call 40); (refine ((HC3 _).out HX1.out).mono ?_); (rintro e w2 ⟨rfl, hb⟩); (have HX2 := hid_ (HX1.out.next hb)); (clear hb HX1))
          go_ret
          exact ⟨rfl, HX2.out.b⟩

set_option maxRecDepth 100000 in
theorem drawShares_args {H : Type} {enc : TypeId × Value → H} {W : World} {base : Nat} {v0 v1 v2 : Value} {d0 d1 d2 : DataW H} {p0 p1 p2 : List MemPlace} {tv : List TypeId} {gs : List (DataW H)}
    (h0 : DataW.Trod enc Try.prog W 0 (fun _ => true) true 3 v0 d0 p0) (k0 : Value.okWide Try.prog W .any base 3 v0) (h1 : DataW.Trod enc Try.prog W 0 (fun _ => true) true 2 v1 d1 p1) (k1 : Value.okWide Try.prog W .any base 2 v1)
    (h2 : DataW.Trod enc Try.prog W 0 (fun _ => true) true 2 v2 d2 p2) (k2 : Value.okWide Try.prog W .any base 2 v2)
    (_hsz : (DataW.weightsEach Try.prog ([3, 2, 2] ++ tv) ([d0, d1, d2] ++ gs)).all (· ≤ reachBytes) = true) :
    Calls Try.prog 14 #[v0, v1, v2] W (TruePost W) := by
  obtain ⟨n, rfl, rfl, rfl, _⟩ := open_int Try.underlying3 k0 h0
  obtain ⟨v, rfl, rfl, rfl, _⟩ := open_int Try.underlying2 k1 h1
  obtain ⟨heat, rfl, rfl, rfl, _⟩ := open_int Try.underlying2 k2 h2
  exact drawShares_walk W n v heat
end Go.Proofs.Ytfinbkpmkgpffaa
