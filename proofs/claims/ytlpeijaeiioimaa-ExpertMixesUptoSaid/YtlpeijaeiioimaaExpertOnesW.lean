/- ExpertOnes walked: it returns true. Conditions: what comes in is of bulk at most 1048576. -/
import Derived.Test.YtlpeijaeiioimaaExpertWB
import Derived.Test.YtlpeijaeiioimaaLawRow
import Derived.Test.YtlpeijaeiioimaaArgs
namespace Go.Proofs.Ytlpeijaeiioimaa
open Go.RowKit Go.ChangeShapes Go.WideShapes Go.ChangeAt

theorem Try.infoI8_ : (Try.prog.info? 87).map (fun i => (i.zero, i.size, i.bytes)) = some (some (.int .i8 0), 1, 1) := by kernel_rfl
theorem same4q {w : World} {B B' : Nat} {v u : Value} {l : List Int} (h1 : RdI w B .i64 v l) (h2 : RdI w B' .i64 u l) : Calls Try.prog 15 #[v, u] w (fun e w' => e = .returned (.bool true) ∧ Below w.heap.size w w') := by
  refine (same04_any h1 h2).mono ?_
  rintro e w' ⟨rfl, h⟩
  exact ⟨by rw [decide_eq_true rfl], below_drawn h⟩
/-- what a row and an error come to: the same on both sides -/
def RowVal (w : World) (r : Option (List Int)) (e : Ending) (w' : World) : Prop := ∃ A n c x, e = .returned (.tuple #[.slice A n c, .int .i64 x]) ∧ RdI w' w'.heap.size .i64 (.slice A n c) (r.getD []) ∧ x = (if r.isSome then 0 else 21) ∧ Below w.heap.size w w'
theorem rowVal_of {w : World} {r : Option (List Int)} {e : Ending} {w' : World} (h : RowRes w r e w') : RowVal w r e w' := by
  cases r with
  | none =>
    obtain ⟨rfl, hb⟩ := h
    exact ⟨none, 0, 0, 21, rfl, rdi_nil _ _ _ _ _, rfl, hb⟩
  | some l =>
    obtain ⟨A, c, rfl, hO, hb⟩ := h
    exact ⟨A, l.length, c, 0, rfl, Rd.of_own hO, rfl, hb⟩

set_option maxRecDepth 100000 in
set_option maxHeartbeats 3200000 in
theorem expertOnes_walk {w : World} {B : Nat} {A1 A2 A3 : Option Addr} {L1 c1 L2 c2 n c3 : Nat} {up down xs : List Int} {hidden : Int} (hu : RdI w B .i8 (.slice A1 L1 c1) up) (hd : RdI w B .i8 (.slice A2 L2 c2) down) (hx : RdI w B .i64 (.slice A3 n c3) xs) (hwu : Wt up) (hwd : Wt down)
    (f1 : Form (.slice A1 L1 c1)) (f2 : Form (.slice A2 L2 c2)) (f3 : Form (.slice A3 n c3)) (b1 : up.length ≤ 1048576) (b2 : down.length ≤ 1048576) (b3 : xs.length ≤ 1048576) :
    Calls Try.prog 3 #[.slice A1 L1 c1, .slice A2 L2 c2, .int .i64 hidden, .slice A3 n c3] w (TruePost w) := by
  obtain ⟨i0, hi0, hz0, hz1, hz2⟩ := info_parts Try.infoI64_
  obtain ⟨j0, hj0, jz0, jz1, jz2⟩ := info_parts Try.infoI8_
  have HE1 := hid_ (own_empty_ w 87)
  have HA1 : Hid (Upd (fun _ => False) w (w.alloc (.cells #[] 87))) := (Upd.refl _ w).alloc _
  have HU := hid_ hu
  have HD := hid_ hd
  have HX := hid_ hx
  have HWU := hid_ hwu
  have HWD := hid_ hwd
  have HF1 := hid_ f1
  have HF2 := hid_ f2
  have HF3 := hid_ f3
  have HR1 := hid_ (rdi_below hu HA1.out.toB)
  clear hu hd hx hwu hwd f1 f2 f3
  go_enter Try.func3, Try.ntmps3
  go_wp2_with (at_builtin; refine wpList_append_rd rfl (.tmp 14) (.tmp 15) 22 rfl w.heap.size 87 j0 (.int .i8 0) 1 Try.underlying22 hj0 jz0 jz1 jz2 rfl _ 0 [] rfl HE1.out B _ _ rfl HR1.out HF1.out (ints_one _) ?c3 ?c4 ?c5 ?_)
  case c3 => unfold maxLen; simp; omega
  case c4 => simp; omega
  case c5 => simp
  intro v1 w2 hO1 hg1
  obtain ⟨D1, d1, rfl, hr1, hb1⟩ := copied hO1 hg1
  have HP1 := hid_ hr1
  have HB1 := hid_ hb1
  have HE2 := hid_ (own_empty_ w2 87)
  have HA2 : Hid (Upd (fun _ => False) w2 (w2.alloc (.cells #[] 87))) := (Upd.refl _ w2).alloc _
  have HR2 := hid_ (rdi_below (rdi_below HD.out hb1) HA2.out.toB)
  clear hO1 hg1 hr1 hb1 HE1 HA1 HR1 HF1
  go_wp2_with (at_builtin; refine wpList_append_rd rfl (.tmp 17) (.tmp 18) 22 rfl w2.heap.size 87 j0 (.int .i8 0) 1 Try.underlying22 hj0 jz0 jz1 jz2 rfl _ 0 [] rfl HE2.out B _ _ rfl HR2.out HF2.out (ints_one _) ?c3 ?c4 ?c5 ?_)
  case c3 => unfold maxLen; simp; omega
  case c4 => simp; omega
  case c5 => simp
  intro v2 w4 hO2 hg2
  obtain ⟨D2, d2, rfl, hr2, hb2⟩ := copied hO2 hg2
  have HP2 := hid_ hr2
  have HB2 := hid_ hb2
  have HE3 := hid_ (own_empty_ w4 2)
  have HA3 : Hid (Upd (fun _ => False) w4 (w4.alloc (.cells #[] 2))) := (Upd.refl _ w4).alloc _
  have HR3 := hid_ (rdi_below (rdi_below (rdi_below HX.out HB1.out) hb2) HA3.out.toB)
  clear hO2 hg2 hr2 hb2 HE2 HA2 HR2 HF2
  go_wp2_with (at_builtin; refine wpList_append_rd rfl (.tmp 21) (.tmp 22) 23 rfl w4.heap.size 2 i0 (.int .i64 0) 8 Try.underlying23 hi0 hz0 hz1 hz2 rfl _ 0 [] rfl HE3.out B _ _ rfl HR3.out HF3.out (ints_one _) ?c3 ?c4 ?c5 ?_)
  case c3 => unfold maxLen; simp; omega
  case c4 => simp; omega
  case c5 => simp
  intro v3 w6 hO3 hg3
  obtain ⟨D3, d3, rfl, hr3, hb3⟩ := copied hO3 hg3
  have hw6 := below_comp (below_comp HB1.out HB2.out) hb3
  have HC1 := hid_ ((one_any (hidden := hidden) (rdi_below (rdi_below HP1.out HB2.out) hb3) (rdi_below HP2.out hb3) hr3 HWU.out HWD.out (by omega) (by omega)).mono (fun _ _ h => rowVal_of h))
  have HRA := hid_ (rdi_below HU.out hw6)
  have HRB := hid_ (rdi_below HD.out hw6)
  have HRC := hid_ (rdi_below HX.out hw6)
  have HW6 := hid_ hw6
  have l1 := (rdi_len HU.out).1
  have l2 := (rdi_len HD.out).1
  have HLA : Hid (L1 ≤ 4294967296 ∧ L2 ≤ 4294967296) := ⟨by omega, by omega⟩
  clear hO3 hg3 hr3 hb3 HE3 HA3 HR3 HF3 hw6 l1 l2
  go_wp2_with (first
    | ((go_at_call 13); (refine HC1.out.mono ?_); (rintro e w7 ⟨A7, n7, c7, x7, rfl, hr7, hx7, hb7⟩); (have HR7 := hid_ hr7); (have HX7 := hid_ hx7); (have HB7 := hid_ hb7); (have HC2 := hid_ ((rone_any (hidden := hidden) (rdi_below HRA.out hb7) (rdi_below HRB.out hb7) (rdi_below HRC.out hb7) HWU.out HWD.out HLA.out.1 HLA.out.2).mono (fun _ _ h => rowVal_of h))); (clear hr7 hx7 hb7))
    | ((go_at_call 14); (refine HC2.out.mono ?_); (rintro e w8 ⟨A8, n8, c8, x8, rfl, hr8, hx8, hb8⟩); (have HR8 := hid_ hr8); (have HR78 := hid_ (rdi_below HR7.out hb8)); (have HB8 := hid_ hb8); (obtain rfl : x7 = x8 := HX7.out.trans hx8.symm); (clear hr8 hx8 hb8))
    | ((go_at_call 15); (refine (same4q HR78.out HR8.out).mono ?_); (rintro e w9 ⟨rfl, hb9⟩); (have HB9 := hid_ hb9); (clear hb9)))
  go_ret
  exact ⟨rfl, below_comp (below_comp (below_comp HW6.out HB7.out) HB8.out) HB9.out⟩

theorem wf_i8 {xs : List Int} (h : ∀ x ∈ xs, (Lit.int .i8 x).wf = true) : Wt xs := by
  intro x hx
  have := h x hx
  simp [Lit.wf] at this
  have e1 : IntKind.i8.min = -128 := by decide
  have e2 : IntKind.i8.max = 127 := by decide
  omega
set_option maxRecDepth 100000 in
theorem expertOnes_args {H : Type} {enc : TypeId × Value → H} {W : World} {base : Nat} {v0 v1 v2 v3 : Value} {d0 d1 d2 d3 : DataW H} {p0 p1 p2 p3 : List MemPlace} {gs : List (DataW H)}
    (h0 : DataW.Trod enc Try.prog W 0 (fun _ => true) true 22 v0 d0 p0) (k0 : Value.okWide Try.prog W .any base 22 v0) (h1 : DataW.Trod enc Try.prog W 0 (fun _ => true) true 22 v1 d1 p1) (k1 : Value.okWide Try.prog W .any base 22 v1)
    (h2 : DataW.Trod enc Try.prog W 0 (fun _ => true) true 3 v2 d2 p2) (k2 : Value.okWide Try.prog W .any base 3 v2) (h3 : DataW.Trod enc Try.prog W 0 (fun _ => true) true 23 v3 d3 p3) (k3 : Value.okWide Try.prog W .any base 23 v3)
    (hk : Rows.uptoSmall H ([d0, d1, d2, d3] ++ gs) = true) :
    Calls Try.prog 3 #[v0, v1, v2, v3] W (TruePost W) := by
  have hb := bulk_all hk
  have hb0 := bulk_mem (d := d0) (l := [d0, d1, d2, d3] ++ gs) (by simp)
  have hb1 := bulk_mem (d := d1) (l := [d0, d1, d2, d3] ++ gs) (by simp)
  have hb3 := bulk_mem (d := d3) (l := [d0, d1, d2, d3] ++ gs) (by simp)
  obtain ⟨up, hu, f0, w0, l0⟩ := nums_open Try.underlying22 Try.underlying87 (by kernel_rfl) h0 k0
  obtain ⟨down, hd, f1, w1, l1⟩ := nums_open Try.underlying22 Try.underlying87 (by kernel_rfl) h1 k1
  obtain ⟨hidden, rfl, rfl, rfl, _⟩ := open_int Try.underlying3 k2 h2
  obtain ⟨xs, hx, f3, _, l3⟩ := nums_open Try.underlying23 Try.underlying2 (by kernel_rfl) h3 k3
  obtain ⟨A0, c0, rfl, _⟩ := hu.form
  obtain ⟨A1, c1, rfl, _⟩ := hd.form
  obtain ⟨A3, c3, rfl, _⟩ := hx.form
  exact expertOnes_walk hu hd hx (wf_i8 w0) (wf_i8 w1) f0 f1 f3 (by omega) (by omega) (by omega)
end Go.Proofs.Ytlpeijaeiioimaa
