/- DrawApart walked: it returns true. No condition beyond the reading of the arguments. -/
import Derived.Test.YtfinbkpmkgpffaaWorks18
import Derived.Test.YtfinbkpmkgpffaaLawRow
import Derived.Test.YtfinbkpmkgpffaaArgs
namespace Go.Proofs.Ytfinbkpmkgpffaa
open Go.RowKit Go.ChangeShapes Go.WideShapes Go.ChangeAt

theorem low60 (n : Int) : 0 ≤ wrap64 ((IntKind.u64.wrap n).tmod 1152921504606846976) ∧ wrap64 ((IntKind.u64.wrap n).tmod 1152921504606846976) < 1152921504606846976 := by
  rw [IntKind.wrap_u64, tmod_of_emod]
  have h : 0 ≤ n % 18446744073709551616 % 1152921504606846976 ∧ n % 18446744073709551616 % 1152921504606846976 < 1152921504606846976 := by omega
  generalize n % 18446744073709551616 % 1152921504606846976 = z at h ⊢
  rw [w64_id (by unfold InI64; omega)]
  exact h
theorem eqs_of {a b c d : Int} (h : a = b ↔ c = d) : ((a == b) == (c == d)) = true := by
  by_cases h1 : c = d
  · have h2 := h.2 h1
    rw [beq_iff_eq.2 h1, beq_iff_eq.2 h2]
    rfl
  · have h2 : ¬ a = b := fun x => h1 (h.1 x)
    rw [beq_eq_false_iff_ne.2 h1, beq_eq_false_iff_ne.2 h2]
    rfl
def BitsPost (w : World) (b : Int) (e : Ending) (w' : World) : Prop := e = .returned (.int .u64 b) ∧ w = w'
set_option maxRecDepth 100000 in
set_option maxHeartbeats 1600000 in
theorem drawApart_walk (w : World) {s t n m : Int} (hs : 0 ≤ s ∧ s < 18446744073709551616) (ht : 0 ≤ t ∧ t < 18446744073709551616) :
    Calls Try.prog 15 #[.int .u64 s, .int .u64 t, .int .i64 n, .int .i64 m] w (TruePost w) := by
  have HW := hid_ (works18_any w)
  have HN := hid_ (low60 n)
  have HM := hid_ (low60 m)
  have HS := hid_ hs
  have HT := hid_ ht
  clear hs ht
  go_enter Try.func15, Try.ntmps15
  go_upto_region 4 with ((go_at_call 42); (refine HW.out.mono ?_); (rintro e w1 ⟨rfl, hb⟩); (have HB1 := hid_ hb); (clear hb))
  clear HW
  generalize wrap64 ((IntKind.u64.wrap n).tmod 1152921504606846976) = a at *
  generalize wrap64 ((IntKind.u64.wrap m).tmod 1152921504606846976) = c at *
  have E1 := eqs_of (bits_places (s := s) HN.out HM.out)
  have E2 := eqs_of (bits_seeds (n := a) HS.out HT.out)
  have C1 : ∀ w, Hid (Calls Try.prog 18 #[.int .u64 s, .int .i64 a] w (BitsPost w (bitsV s a))) := bits_any s a
  have C2 : ∀ w, Hid (Calls Try.prog 18 #[.int .u64 s, .int .i64 c] w (BitsPost w (bitsV s c))) := bits_any s c
  have C3 : ∀ w, Hid (Calls Try.prog 18 #[.int .u64 t, .int .i64 a] w (BitsPost w (bitsV t a))) := bits_any t a
  generalize bitsV s a = b1 at *
  generalize bitsV s c = b2 at *
  generalize bitsV t a = b3 at *
  clear HN HM HS HT
  have K1 : Hid True := trivial
  go_wp2_with (first
    | ((go_at_call 18); (have h9 := K1); (clear h9); (refine (C1 _).out.mono ?_); (rintro e w2 ⟨rfl, rfl⟩); (clear K1); (have K2 : Hid True := trivial))
    | ((go_at_call 18); (have h9 := K2); (clear h9); (refine (C2 _).out.mono ?_); (rintro e w2 ⟨rfl, rfl⟩); (clear K2); (have K3 : Hid True := trivial))
    | ((go_at_call 18); (have h9 := K3); (clear h9); (refine (C1 _).out.mono ?_); (rintro e w2 ⟨rfl, rfl⟩); (clear K3); (have K4 : Hid True := trivial))
    | ((go_at_call 18); (have h9 := K4); (clear h9); (refine (C3 _).out.mono ?_); (rintro e w2 ⟨rfl, rfl⟩); (clear K4)))
  go_ret
  exact ⟨rfl, HB1.out⟩

theorem wf_u64 {x : Int} (h : (Lit.int .u64 x).wf = true) : 0 ≤ x ∧ x < 18446744073709551616 := by
  simp [Lit.wf] at h
  have e1 : IntKind.u64.min = 0 := by decide
  have e2 : IntKind.u64.max = 18446744073709551615 := by decide
  omega
set_option maxRecDepth 100000 in
theorem drawApart_args {H : Type} {enc : TypeId × Value → H} {W : World} {base : Nat} {v0 v1 v2 v3 : Value} {d0 d1 d2 d3 : DataW H} {p0 p1 p2 p3 : List MemPlace} {tv : List TypeId} {gs : List (DataW H)}
    (h0 : DataW.Trod enc Try.prog W 0 (fun _ => true) true 22 v0 d0 p0) (k0 : Value.okWide Try.prog W .any base 22 v0) (h1 : DataW.Trod enc Try.prog W 0 (fun _ => true) true 22 v1 d1 p1) (k1 : Value.okWide Try.prog W .any base 22 v1)
    (h2 : DataW.Trod enc Try.prog W 0 (fun _ => true) true 3 v2 d2 p2) (k2 : Value.okWide Try.prog W .any base 3 v2) (h3 : DataW.Trod enc Try.prog W 0 (fun _ => true) true 3 v3 d3 p3) (k3 : Value.okWide Try.prog W .any base 3 v3)
    (_hsz : (DataW.weightsEach Try.prog ([22, 22, 3, 3] ++ tv) ([d0, d1, d2, d3] ++ gs)).all (· ≤ reachBytes) = true) :
    Calls Try.prog 15 #[v0, v1, v2, v3] W (TruePost W) := by
  obtain ⟨s, rfl, rfl, rfl, ws⟩ := open_int Try.underlying22 k0 h0
  obtain ⟨t, rfl, rfl, rfl, wt⟩ := open_int Try.underlying22 k1 h1
  obtain ⟨n, rfl, rfl, rfl, _⟩ := open_int Try.underlying3 k2 h2
  obtain ⟨m, rfl, rfl, rfl, _⟩ := open_int Try.underlying3 k3 h3
  exact drawApart_walk W (wf_u64 ws) (wf_u64 wt)
end Go.Proofs.Ytfinbkpmkgpffaa
