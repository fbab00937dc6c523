/- PickAll walked: it returns true. Conditions: none beyond the reading of the argument. -/
import Derived.Test.YtfinbkpmkgpffaaPickWorks
namespace Go.Proofs.Ytfinbkpmkgpffaa
open Go.RowKit Go.ChangeShapes Go.WideShapes Go.ChangeAt

theorem order_step {xs : List Int} {n : Nat} (h : n + 1 < xs.length) : ltx xs ((order xs).getD n 0) ((order xs).getD (n + 1) 0) :=
  srt (order_sorted xs) (Nat.lt_succ_self n) (by rw [order_length]; exact h)
def ShapePost (w : World) (n : Nat) (l : List Int) (e : Ending) (w' : World) : Prop := ∃ A c, e = .returned (.slice A n c) ∧ RdI w' w'.heap.size .i64 (.slice A n c) l ∧ Below w.heap.size w w'
theorem shape_of {w w' : World} {l : List Int} {n : Nat} (hl : l.length = n) {e : Ending} (h : TopPost w l e w') : ShapePost w n l e w' := by
  subst hl
  obtain ⟨v, rfl, hr, hb⟩ := h
  obtain ⟨A, c, rfl, _⟩ := hr.form
  exact ⟨A, c, rfl, hr, hb⟩
/-- where the argument and the list of places read as they do -/
structure St2 (w0 : World) (u v : Value) (xs l : List Int) (w : World) : Prop where
  u : RdI w w.heap.size .i64 u xs
  v : RdI w w.heap.size .i64 v l
  b : Upd (fun _ => False) w0 w
theorem St2.next {w0 w w' : World} {u v : Value} {xs l : List Int} (h : St2 w0 u v xs l w) (hb : Below w.heap.size w w') : St2 w0 u v xs l w' := ⟨h.u.next hb, h.v.next hb, h.b.below hb⟩

set_option maxRecDepth 100000 in
set_option maxHeartbeats 6400000 in
theorem pickAll_walk {w : World} {v : Value} {xs : List Int} (hx : RdI w w.heap.size .i64 v xs) :
    Calls Try.prog 5 #[v] w (TruePost w) := by
  obtain ⟨A, c, hv, hc, hm, hcx⟩ := hx.form
  have HX := hid_ hx
  have HW := hid_ (works07_any w)
  clear hx hcx hm hc
  subst hv
  by_cases h300 : 300 < xs.length
  · have h300' : (300 : Int) < (xs.length : Int) := by omega
    go_enter Try.func5, Try.ntmps5
    go_wp2_with ((go_at_call 28); (refine HW.out.mono ?_); (rintro e w1 ⟨rfl, hb⟩); (have HB := hid_ hb); (clear hb))
    go_ret
    exact ⟨rfl, HB.out⟩
  have h300' : ¬ (300 : Int) < (xs.length : Int) := by omega
  have hl := order_length xs
  have HTOP := hid_ (fun (w1 : World) (h : RdI w1 w1.heap.size .i64 (.slice A xs.length c) xs) => (show Calls Try.prog 23 #[.slice A xs.length c, .int .i64 (xs.length : Nat)] w1 (ShapePost w1 xs.length (order xs)) from by
    have h1 := top_any h (by omega) (xs.length : Nat)
    rw [take_clamp_all] at h1
    exact h1.mono (fun _ _ h => shape_of (order_length xs) h)))
  go_enter Try.func5, Try.ntmps5
  go_wp2_with (first
    | ((go_at_call 28); (refine HW.out.mono ?_); (rintro e w1 ⟨rfl, hb⟩); (have HX1 := hid_ (HX.out.next hb)); (have HB1 := hid_ (Upd.of_below (S := fun _ => False) hb)); (clear hb))
    | ((go_at_call 23); (refine (HTOP.out _ HX1.out).mono ?_); (rintro e w2 ⟨A2, c2, rfl, hr, hb⟩); (have HS := hid_ (show St2 w (.slice A xs.length c) (.slice A2 xs.length c2) xs (order xs) w2 from ⟨HX1.out.next hb, hr, HB1.out.below hb⟩)); (clear hr hb)))
  clear HX HX1 HB1 HW HTOP
  have h301 : xs.length ≤ 300 := by omega
  clear h300 h300'
  go_loopw [4] (fun iv wr => ∃ n : Nat, n ≤ xs.length ∧ iv = .int .i64 n ∧ St2 w (.slice A xs.length c) (.slice A2 xs.length c2) xs (order xs) wr) (fun iv _ => xs.length - (intOf iv).toNat)
  case atStart => exact ⟨0, Nat.zero_le _, rfl, HS.out⟩
  case round =>
    obtain ⟨n, hn, rfl, hS⟩ := hrel
    have HSS := hid_ hS
    by_cases hlt : n < xs.length
    · have hlt' : (n : Int) < (xs.length : Int) := by omega
      obtain ⟨Av, cv, ev, _, _, hcv⟩ := hS.v.form
      injection ev with ev1 ev2 ev3
      subst ev1 ev3
      obtain ⟨b, o, rfl, _, _, c1⟩ := hcv n (by rw [hl]; exact hlt)
      obtain ⟨a, ha⟩ : ∃ a, (order xs).getD n 0 = a := ⟨_, rfl⟩
      rw [ha] at c1
      have h1 := order_at hlt
      rw [ha] at h1
      obtain ⟨h1, h2⟩ := h1
      have hR := rankV_order hlt
      rw [ha] at hR
      have HA := hid_ ha
      have hRK := rank_any hS.u (by omega) a
      rw [hR] at hRK
      have HRK := hid_ hRK
      have ha0 : ¬ a < 0 := by omega
      have ha1 : ¬ (xs.length : Int) ≤ a := by omega
      clear hRK hR ha hcv hS ev2
      go_upto_region 14 with ((go_at_call 25); (refine HRK.out.mono ?_); (rintro e w3 ⟨rfl, hb⟩); (have HS3 := hid_ (HSS.out.next hb)); (clear hb HRK))
      clear HSS c1
      obtain ⟨ai, rfl⟩ : ∃ ai : Nat, a = ai := ⟨a.toNat, by omega⟩
      by_cases hn0 : n = 0
      · have hz2 : decide (0 < n) = false := decide_eq_false (by omega)
        have HN0 := hid_ hn0
        clear hn0
        go_quiet (fail)
        go_wp2_with fail
        go_roundw
        case rel => exact ⟨n + 1, by omega, by first | rfl | go_num, HS3.out.next (below_drew ⟨_, rfl⟩)⟩
        case measure => simp [intOf]; omega
      · obtain ⟨q, hq⟩ : ∃ q, q = n - 1 := ⟨_, rfl⟩
        have hz : 0 < n := by omega
        have hz2 : decide (0 < n) = true := decide_eq_true hz
        have n1 : (n : Int) - 1 = (q : Int) := by omega
        have n2 : IntKind.i64.wrap ((n : Int) - 1) = (q : Int) := by rw [n1]; exact w64 (by omega) (by omega)
        have hstep := order_step (xs := xs) (n := q) (by omega)
        have hqn : q + 1 = n := by omega
        rw [hqn, HA.out] at hstep
        obtain ⟨h5, h6⟩ := order_at (xs := xs) (t := q) (by omega)
        obtain ⟨Av, cv, ev, _, _, hcv⟩ := HS3.out.v.form
        injection ev with ev1 ev2 ev3
        subst ev1 ev3
        obtain ⟨b7, o7, e7, _, _, c2⟩ := hcv q (by rw [hl]; omega)
        injection e7 with e7
        injection e7 with e8 e9
        subst e8 e9
        obtain ⟨bi, hbi⟩ : ∃ bi : Nat, (order xs).getD q 0 = bi := ⟨((order xs).getD q 0).toNat, by omega⟩
        rw [hbi] at c2 h5 h6 hstep
        obtain ⟨Aw, cw, ew, _, _, hcw⟩ := HS3.out.u.form
        injection ew with ew1 ew2 ew3
        subst ew1 ew3
        obtain ⟨b8, o8, rfl, _, _, c3⟩ := hcw ai (by omega)
        obtain ⟨b9, o9, e10, _, _, c4⟩ := hcw bi (by omega)
        injection e10 with e10
        injection e10 with e11 e12
        subst e11 e12
        have hai : (ai : Int) < (xs.length : Int) := by omega
        have hqz : (q : Int) < (xs.length : Int) := by omega
        unfold ltx at hstep
        rw [Int.toNat_natCast, Int.toNat_natCast] at hstep
        obtain ⟨u, hu⟩ : ∃ u, xs.getD ai 0 = u := ⟨_, rfl⟩
        obtain ⟨y, hy⟩ : ∃ y, xs.getD bi 0 = y := ⟨_, rfl⟩
        rw [hu] at c3 hstep
        rw [hy] at c4 hstep
        have HU := hid_ hu
        have HY := hid_ hy
        have HST := hid_ hstep
        clear hcv hcw ev2 ew2 hu hy hbi hstep hn0 hq hqn hl
        have g1 : ¬ y < u := by have := HST.out; omega
        have g1' : decide (y < u) = false := decide_eq_false g1
        by_cases h2 : u = y
        · have g2 : (u == y) = true := beq_iff_eq.2 h2
          have g3 : ¬ (ai : Int) < (bi : Int) := by have := HST.out; omega
          have g4 : ¬ ai < bi := by omega
          have g3' : decide (ai < bi) = false := decide_eq_false g4
          go_quiet (fail)
          go_wp2_with fail
          go_roundw
          case rel => exact ⟨n + 1, by omega, by go_num, HS3.out.next (below_drew ⟨_, rfl⟩)⟩
          case measure => simp [intOf]; omega
        · have g2 : (u == y) = false := beq_eq_false_iff_ne.2 h2
          go_quiet (fail)
          go_wp2_with fail
          go_roundw
          case rel => exact ⟨n + 1, by omega, by go_num, HS3.out.next (below_drew ⟨_, rfl⟩)⟩
          case measure => simp [intOf]; omega
    · clear hS
      go_wp2_with fail
      go_ret
      exact ⟨rfl, HSS.out.b.toBelow (Nat.le_refl _) (fun _ h => h.elim)⟩

set_option maxRecDepth 100000 in
theorem pickAll_args {H : Type} {enc : TypeId × Value → H} {W : World} {base : Nat} {v0 : Value} {d0 : DataW H} {p0 : List MemPlace} {tv : List TypeId} {gs : List (DataW H)}
    (h0 : DataW.Trod enc Try.prog W 0 (fun _ => true) true 29 v0 d0 p0) (k0 : Value.okWide Try.prog W .any base 29 v0)
    (_hsz : (DataW.weightsEach Try.prog ([29] ++ tv) ([d0] ++ gs)).all (· ≤ reachBytes) = true) :
    Calls Try.prog 5 #[v0] W (TruePost W) := by
  obtain ⟨xs, hx, _⟩ := ints_open h0 k0
  exact pickAll_walk hx
end Go.Proofs.Ytfinbkpmkgpffaa
