/- DrawChooses walked: it returns true. Conditions: none beyond the reading of the arguments. -/
import Derived.Test.YtfinbkpmkgpffaaChooseWB
import Derived.Test.YtfinbkpmkgpffaaLawRow
import Derived.Test.YtfinbkpmkgpffaaArgs
namespace Go.Proofs.Ytfinbkpmkgpffaa
open Go.RowKit Go.ChangeShapes Go.WideShapes Go.ChangeAt

set_option maxRecDepth 100000 in
set_option maxHeartbeats 1600000 in
theorem drawChooses_walk {w : World} {B : Nat} {A : Option Addr} {n c : Nat} {xs : List Int} {k heat u : Int} (hx : RdI w B .i64 (.slice A n c) xs) (hf : Form (.slice A n c)) (hu : 0 ≤ u) (hu2 : u ≤ 18446744073709551615) :
    Calls Try.prog 12 #[.slice A n c, .int .i64 k, .int .i64 heat, .int .u64 u] w (TruePost w) := by
  obtain ⟨i0, hi0, hz0, hz1, hz2⟩ := info_parts Try.infoI64s
  by_cases h40 : 40 < n
  · have h40' : (40 : Int) < (n : Int) := by omega
    clear hx hf
    go_enter Try.func12, Try.ntmps12
    go_wp2_with fail
    go_ret
    exact ⟨rfl, Below.refl _ _⟩
  have h40' : ¬ (40 : Int) < (n : Int) := by omega
  have HE1 := hid_ (own_empty_ w 2)
  have HA1 : Hid (Upd (fun _ => False) w (w.alloc (.cells #[] 2))) := (Upd.refl _ w).alloc _
  have HR1 := hid_ (rdi_below hx HA1.out.toB)
  have HX := hid_ hx
  have HF := hid_ hf
  have hl := (rdi_len hx).1
  have HL := hid_ hl
  clear hx hf hl
  go_enter Try.func12, Try.ntmps12
  go_wp2_with (at_builtin; refine wpList_append_rd rfl (.tmp 12) (.tmp 13) 29 rfl w.heap.size 2 i0 (.int .i64 0) 8 Try.underlying29 hi0 hz0 hz1 hz2 rfl _ 0 [] rfl HE1.out B _ _ rfl HR1.out HF.out (ints_one _) ?c3 ?c4 ?c5 ?_)
  case c3 => have := HL.out; unfold maxLen; simp; omega
  case c4 => have := HL.out; simp; omega
  try case c5 => simp
  intro v1 w2 hO1 hg1
  obtain ⟨D1, d1, rfl, hr1, hb1⟩ := copied hO1 hg1
  have HC1 := hid_ (choose_any (k := k) (heat := heat) hr1 hu hu2 (by have := HL.out; omega))
  have HC2 := hid_ (fun (w3 : World) (hb : Below w2.heap.size w2 w3) => rchoose_any (k := k) (heat := heat) (rdi_below (rdi_below HX.out hb1) hb) hu hu2 (by omega))
  have HB1 := hid_ hb1
  clear hO1 hg1 hr1 hb1 HE1 HA1 HR1 HF HX
  generalize chooseV xs k heat u = r at *
  go_wp2_with (first
    | ((go_at_call 40); (refine HC1.out.mono ?_); (rintro e w3 ⟨rfl, hb⟩); (have HB3 := hid_ hb); (clear hb))
    | ((go_at_call 41); (refine (HC2.out _ HB3.out).mono ?_); (rintro e w4 ⟨rfl, hb⟩); (have HB4 := hid_ hb); (clear hb)))
  go_ret
  exact ⟨rfl, below_comp (below_comp HB1.out HB3.out) HB4.out⟩

theorem wf_u64 {x : Int} (h : (Lit.int .u64 x).wf = true) : 0 ≤ x ∧ x ≤ 18446744073709551615 := by
  simp [Lit.wf] at h
  have e1 : IntKind.u64.min = 0 := by decide
  have e2 : IntKind.u64.max = 18446744073709551615 := by decide
  omega
set_option maxRecDepth 100000 in
theorem drawChooses_args {H : Type} {enc : TypeId × Value → H} {W : World} {base : Nat} {v0 v1 v2 v3 : Value} {d0 d1 d2 d3 : DataW H} {p0 p1 p2 p3 : List MemPlace} {tv : List TypeId} {gs : List (DataW H)}
    (h0 : DataW.Trod enc Try.prog W 0 (fun _ => true) true 29 v0 d0 p0) (k0 : Value.okWide Try.prog W .any base 29 v0) (h1 : DataW.Trod enc Try.prog W 0 (fun _ => true) true 3 v1 d1 p1) (k1 : Value.okWide Try.prog W .any base 3 v1)
    (h2 : DataW.Trod enc Try.prog W 0 (fun _ => true) true 2 v2 d2 p2) (k2 : Value.okWide Try.prog W .any base 2 v2) (h3 : DataW.Trod enc Try.prog W 0 (fun _ => true) true 22 v3 d3 p3) (k3 : Value.okWide Try.prog W .any base 22 v3)
    (_hsz : (DataW.weightsEach Try.prog ([29, 3, 2, 22] ++ tv) ([d0, d1, d2, d3] ++ gs)).all (· ≤ reachBytes) = true) :
    Calls Try.prog 12 #[v0, v1, v2, v3] W (TruePost W) := by
  obtain ⟨xs, hx, f0, _, _⟩ := nums_open Try.underlying29 Try.underlying2 (by kernel_rfl) h0 k0
  obtain ⟨k, rfl, rfl, rfl, _⟩ := open_int Try.underlying3 k1 h1
  obtain ⟨heat, rfl, rfl, rfl, _⟩ := open_int Try.underlying2 k2 h2
  obtain ⟨u, rfl, rfl, rfl, wu⟩ := open_int Try.underlying22 k3 h3
  obtain ⟨A0, c0, rfl, _⟩ := hx.form
  have hu := wf_u64 wu
  exact drawChooses_walk hx f0 hu.1 hu.2
end Go.Proofs.Ytfinbkpmkgpffaa
