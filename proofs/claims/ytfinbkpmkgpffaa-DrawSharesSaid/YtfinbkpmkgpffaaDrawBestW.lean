/- DrawBest walked: it returns true. No condition beyond the reading of the arguments. -/
import Derived.Test.YtfinbkpmkgpffaaDrawApartW
namespace Go.Proofs.Ytfinbkpmkgpffaa
open Go.RowKit Go.ChangeShapes Go.WideShapes Go.ChangeAt

/-- where the argument reads as the scores, behind all that has been called -/
structure At1 (w0 : World) (v : Value) (xs : List Int) (w : World) : Prop where
  r : RdI w w.heap.size .i64 v xs
  b : Below w0.heap.size w0 w
theorem At1.next {w0 w w' : World} {v : Value} {xs : List Int} (h : At1 w0 v xs w) (hb : Below w.heap.size w w') : At1 w0 v xs w' := ⟨h.r.next hb, below_comp h.b hb⟩

set_option maxRecDepth 100000 in
set_option maxHeartbeats 3200000 in
theorem drawBest_walk {w : World} {A : Option Addr} {n c : Nat} {xs : List Int} {k heat u : Int} (hx : RdI w w.heap.size .i64 (.slice A n c) xs) (hu : 0 ≤ u) (hu2 : u ≤ 18446744073709551615) :
    Calls Try.prog 13 #[.slice A n c, .int .i64 k, .int .i64 heat, .int .u64 u] w (TruePost w) := by
  have HW := hid_ (works18_any w)
  have HX0 : Hid (At1 w (.slice A n c) xs w) := ⟨hx, Below.refl _ _⟩
  have hl := (rdi_len hx).1
  clear hx
  by_cases hn : n = 0 ∨ 100 < n
  · have g : ((n : Int) == 0) = true ∨ (((n : Int) == 0) = false ∧ (100 : Int) < (n : Int)) := by
      by_cases h0 : n = 0
      · exact .inl (beq_iff_eq.2 (by omega))
      · exact .inr ⟨beq_eq_false_iff_ne.2 (by omega), by omega⟩
    clear hn
    rcases g with g | ⟨g, g2⟩ <;>
    · go_enter Try.func13, Try.ntmps13
      go_wp2_with ((go_at_call 42); (refine HW.out.mono ?_); (rintro e w1 ⟨rfl, hb⟩); (have HB1 := hid_ hb); (clear hb))
      go_ret
      exact ⟨rfl, HB1.out⟩
  have hn0 : 0 < n := by omega
  have hn1 : n ≤ 100 := by omega
  have g : ((n : Int) == 0) = false := beq_eq_false_iff_ne.2 (by omega)
  have g2 : ¬ (100 : Int) < (n : Int) := by omega
  obtain ⟨t, ht, hch, hk1, hk2⟩ := chooseV_best (xs := xs) (by omega) k heat u
  have hat := order_at ht
  have hrk := rankV_order ht
  have HC : ∀ w1, Hid (At1 w (.slice A n c) xs w1 → Calls Try.prog 40 #[.slice A n c, .int .i64 k, .int .i64 heat, .int .u64 u] w1 (DrawnInt w1 (chooseV xs k heat u))) := fun w1 h => choose_any h.r hu hu2 (by omega)
  have HC1 : ∀ w1, Hid (At1 w (.slice A n c) xs w1 → Calls Try.prog 40 #[.slice A n c, .int .i64 1, .int .i64 heat, .int .u64 u] w1 (DrawnInt w1 (maxV xs))) := fun w1 h => by
    have := choose_any (k := 1) (heat := heat) (u := u) h.r hu hu2 (by omega)
    rw [chooseV_one] at this
    exact this
  have HC0 : ∀ w1, Hid (At1 w (.slice A n c) xs w1 → Calls Try.prog 40 #[.slice A n c, .int .i64 k, .int .i64 0, .int .u64 u] w1 (DrawnInt w1 (maxV xs))) := fun w1 h => by
    have := choose_any (k := k) (heat := 0) (u := u) h.r hu hu2 (by omega)
    rw [chooseV_cold] at this
    exact this
  have HM : ∀ w1, Hid (At1 w (.slice A n c) xs w1 → Calls Try.prog 21 #[.slice A n c] w1 (IntPost w1 (maxV xs))) := fun w1 h => rmax_any h.r (by omega)
  obtain ⟨a, ha⟩ : ∃ a, (order xs).getD t 0 = a := ⟨_, rfl⟩
  rw [ha] at hch hat hrk
  have HR : ∀ w1, Hid (At1 w (.slice A n c) xs w1 → Calls Try.prog 26 #[.slice A n c, .int .i64 a] w1 (IntPost w1 t)) := fun w1 h => by
    have := rrank_any h.r a
    rw [hrk] at this
    exact this.mono (fun _ _ h => ⟨h.1, below_drew h.2⟩)
  rw [hch] at HC
  generalize maxV xs = mx at *
  have a1 : ¬ a < 0 := by omega
  have a2 : ¬ (n : Int) ≤ a := by omega
  clear hat hch hrk ha hn hl ht hu hu2
  have gs : (k < 1 ∧ t = 0) ∨ (¬ k < 1 ∧ (t : Int) < k ∧ ¬ 1 < k ∧ t = 0) ∨ (¬ k < 1 ∧ (t : Int) < k ∧ 1 < k ∧ 0 < heat) ∨ (¬ k < 1 ∧ (t : Int) < k ∧ 1 < k ∧ ¬ 0 < heat ∧ t = 0) := by omega
  clear hk1 hk2
  rcases gs with ⟨g3, rfl⟩ | ⟨g3, g4, g5, rfl⟩ | ⟨g3, g4, g5, g6⟩ | ⟨g3, g4, g5, g6, rfl⟩
  · have g5 : ¬ 1 < k := by omega
    go_enter Try.func13, Try.ntmps13
    go_wp2_with (first
      | ((go_at_call 42); (refine HW.out.mono ?_); (rintro e w1 ⟨rfl, hb⟩); (have HX1 := hid_ (HX0.out.next hb)); (clear hb HX0); (have K1 : Hid True := trivial))
      | ((go_at_call 40); (have h9 := K1); (clear h9); (refine ((HC _).out HX1.out).mono ?_); (rintro e w2 ⟨rfl, hb⟩); (have HX2 := hid_ (HX1.out.next hb)); (clear hb HX1 K1); (have K2 : Hid True := trivial))
      | ((go_at_call 26); (refine ((HR _).out HX2.out).mono ?_); (rintro e w3 ⟨rfl, hb⟩); (have HX3 := hid_ (HX2.out.next hb)); (clear hb HX2 K2); (have K3 : Hid True := trivial))
      | ((go_at_call 40); (have h9 := K3); (clear h9); (refine ((HC1 _).out HX3.out).mono ?_); (rintro e w4 ⟨rfl, hb⟩); (have HX4 := hid_ (HX3.out.next hb)); (clear hb HX3 K3); (have K4 : Hid True := trivial))
      | ((go_at_call 21); (have h9 := K4); (clear h9); (refine ((HM _).out HX4.out).mono ?_); (rintro e w5 ⟨rfl, hb⟩); (have HX5 := hid_ (HX4.out.next hb)); (clear hb HX4 K4); (have K5 : Hid True := trivial))
      | ((go_at_call 40); (have h9 := K5); (clear h9); (refine ((HC0 _).out HX5.out).mono ?_); (rintro e w6 ⟨rfl, hb⟩); (have HX6 := hid_ (HX5.out.next hb)); (clear hb HX5 K5); (have K6 : Hid True := trivial))
      | ((go_at_call 21); (have h9 := K6); (clear h9); (refine ((HM _).out HX6.out).mono ?_); (rintro e w7 ⟨rfl, hb⟩); (have HX7 := hid_ (HX6.out.next hb)); (clear hb HX6 K6)))
    go_ret
    exact ⟨rfl, HX7.out.b⟩
  · have g7 : (0 : Int) < k := by omega
    go_enter Try.func13, Try.ntmps13
    go_wp2_with (first
      | ((go_at_call 42); (refine HW.out.mono ?_); (rintro e w1 ⟨rfl, hb⟩); (have HX1 := hid_ (HX0.out.next hb)); (clear hb HX0); (have K1 : Hid True := trivial))
      | ((go_at_call 40); (have h9 := K1); (clear h9); (refine ((HC _).out HX1.out).mono ?_); (rintro e w2 ⟨rfl, hb⟩); (have HX2 := hid_ (HX1.out.next hb)); (clear hb HX1 K1); (have K2 : Hid True := trivial))
      | ((go_at_call 26); (refine ((HR _).out HX2.out).mono ?_); (rintro e w3 ⟨rfl, hb⟩); (have HX3 := hid_ (HX2.out.next hb)); (clear hb HX2 K2); (have K3 : Hid True := trivial))
      | ((go_at_call 40); (have h9 := K3); (clear h9); (refine ((HC1 _).out HX3.out).mono ?_); (rintro e w4 ⟨rfl, hb⟩); (have HX4 := hid_ (HX3.out.next hb)); (clear hb HX3 K3); (have K4 : Hid True := trivial))
      | ((go_at_call 21); (have h9 := K4); (clear h9); (refine ((HM _).out HX4.out).mono ?_); (rintro e w5 ⟨rfl, hb⟩); (have HX5 := hid_ (HX4.out.next hb)); (clear hb HX4 K4); (have K5 : Hid True := trivial))
      | ((go_at_call 40); (have h9 := K5); (clear h9); (refine ((HC0 _).out HX5.out).mono ?_); (rintro e w6 ⟨rfl, hb⟩); (have HX6 := hid_ (HX5.out.next hb)); (clear hb HX5 K5); (have K6 : Hid True := trivial))
      | ((go_at_call 21); (have h9 := K6); (clear h9); (refine ((HM _).out HX6.out).mono ?_); (rintro e w7 ⟨rfl, hb⟩); (have HX7 := hid_ (HX6.out.next hb)); (clear hb HX6 K6)))
    go_ret
    exact ⟨rfl, HX7.out.b⟩
  · skip
    go_enter Try.func13, Try.ntmps13
    go_wp2_with (first
      | ((go_at_call 42); (refine HW.out.mono ?_); (rintro e w1 ⟨rfl, hb⟩); (have HX1 := hid_ (HX0.out.next hb)); (clear hb HX0); (have K1 : Hid True := trivial))
      | ((go_at_call 40); (have h9 := K1); (clear h9); (refine ((HC _).out HX1.out).mono ?_); (rintro e w2 ⟨rfl, hb⟩); (have HX2 := hid_ (HX1.out.next hb)); (clear hb HX1 K1); (have K2 : Hid True := trivial))
      | ((go_at_call 26); (refine ((HR _).out HX2.out).mono ?_); (rintro e w3 ⟨rfl, hb⟩); (have HX3 := hid_ (HX2.out.next hb)); (clear hb HX2 K2); (have K3 : Hid True := trivial))
      | ((go_at_call 40); (have h9 := K3); (clear h9); (refine ((HC1 _).out HX3.out).mono ?_); (rintro e w4 ⟨rfl, hb⟩); (have HX4 := hid_ (HX3.out.next hb)); (clear hb HX3 K3); (have K4 : Hid True := trivial))
      | ((go_at_call 21); (have h9 := K4); (clear h9); (refine ((HM _).out HX4.out).mono ?_); (rintro e w5 ⟨rfl, hb⟩); (have HX5 := hid_ (HX4.out.next hb)); (clear hb HX4 K4); (have K5 : Hid True := trivial))
      | ((go_at_call 40); (have h9 := K5); (clear h9); (refine ((HC0 _).out HX5.out).mono ?_); (rintro e w6 ⟨rfl, hb⟩); (have HX6 := hid_ (HX5.out.next hb)); (clear hb HX5 K5); (have K6 : Hid True := trivial))
      | ((go_at_call 21); (have h9 := K6); (clear h9); (refine ((HM _).out HX6.out).mono ?_); (rintro e w7 ⟨rfl, hb⟩); (have HX7 := hid_ (HX6.out.next hb)); (clear hb HX6 K6)))
    go_ret
    exact ⟨rfl, HX7.out.b⟩
  · have g7 : (0 : Int) < k := by omega
    go_enter Try.func13, Try.ntmps13
    go_wp2_with (first
      | ((go_at_call 42); (refine HW.out.mono ?_); (rintro e w1 ⟨rfl, hb⟩); (have HX1 := hid_ (HX0.out.next hb)); (clear hb HX0); (have K1 : Hid True := trivial))
      | ((go_at_call 40); (have h9 := K1); (clear h9); (refine ((HC _).out HX1.out).mono ?_); (rintro e w2 ⟨rfl, hb⟩); (have HX2 := hid_ (HX1.out.next hb)); (clear hb HX1 K1); (have K2 : Hid True := trivial))
      | ((go_at_call 26); (refine ((HR _).out HX2.out).mono ?_); (rintro e w3 ⟨rfl, hb⟩); (have HX3 := hid_ (HX2.out.next hb)); (clear hb HX2 K2); (have K3 : Hid True := trivial))
      | ((go_at_call 40); (have h9 := K3); (clear h9); (refine ((HC1 _).out HX3.out).mono ?_); (rintro e w4 ⟨rfl, hb⟩); (have HX4 := hid_ (HX3.out.next hb)); (clear hb HX3 K3); (have K4 : Hid True := trivial))
      | ((go_at_call 21); (have h9 := K4); (clear h9); (refine ((HM _).out HX4.out).mono ?_); (rintro e w5 ⟨rfl, hb⟩); (have HX5 := hid_ (HX4.out.next hb)); (clear hb HX4 K4); (have K5 : Hid True := trivial))
      | ((go_at_call 40); (have h9 := K5); (clear h9); (refine ((HC0 _).out HX5.out).mono ?_); (rintro e w6 ⟨rfl, hb⟩); (have HX6 := hid_ (HX5.out.next hb)); (clear hb HX5 K5); (have K6 : Hid True := trivial))
      | ((go_at_call 21); (have h9 := K6); (clear h9); (refine ((HM _).out HX6.out).mono ?_); (rintro e w7 ⟨rfl, hb⟩); (have HX7 := hid_ (HX6.out.next hb)); (clear hb HX6 K6)))
    go_ret
    exact ⟨rfl, HX7.out.b⟩

set_option maxRecDepth 100000 in
theorem drawBest_args {H : Type} {enc : TypeId × Value → H} {W : World} {base : Nat} {v0 v1 v2 v3 : Value} {d0 d1 d2 d3 : DataW H} {p0 p1 p2 p3 : List MemPlace} {tv : List TypeId} {gs : List (DataW H)}
    (h0 : DataW.Trod enc Try.prog W 0 (fun _ => true) true 29 v0 d0 p0) (k0 : Value.okWide Try.prog W .any base 29 v0) (h1 : DataW.Trod enc Try.prog W 0 (fun _ => true) true 3 v1 d1 p1) (k1 : Value.okWide Try.prog W .any base 3 v1)
    (h2 : DataW.Trod enc Try.prog W 0 (fun _ => true) true 2 v2 d2 p2) (k2 : Value.okWide Try.prog W .any base 2 v2) (h3 : DataW.Trod enc Try.prog W 0 (fun _ => true) true 22 v3 d3 p3) (k3 : Value.okWide Try.prog W .any base 22 v3)
    (_hsz : (DataW.weightsEach Try.prog ([29, 3, 2, 22] ++ tv) ([d0, d1, d2, d3] ++ gs)).all (· ≤ reachBytes) = true) :
    Calls Try.prog 13 #[v0, v1, v2, v3] W (TruePost W) := by
  obtain ⟨xs, hx, f0, _, _⟩ := nums_open Try.underlying29 Try.underlying2 (by kernel_rfl) h0 k0
  obtain ⟨k, rfl, rfl, rfl, _⟩ := open_int Try.underlying3 k1 h1
  obtain ⟨heat, rfl, rfl, rfl, _⟩ := open_int Try.underlying2 k2 h2
  obtain ⟨u, rfl, rfl, rfl, wu⟩ := open_int Try.underlying22 k3 h3
  obtain ⟨A0, c0, rfl, _⟩ := hx.form
  have hu := wf_u64 wu
  exact drawBest_walk hx.low hu.1 (by omega)
end Go.Proofs.Ytfinbkpmkgpffaa
