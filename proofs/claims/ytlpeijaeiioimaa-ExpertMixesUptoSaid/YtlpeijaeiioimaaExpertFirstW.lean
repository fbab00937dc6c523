/- ExpertFirst walked: it returns true. Conditions: what comes in is of bulk at most 1048576. -/
import Derived.Test.YtlpeijaeiioimaaFirstLaw
import Derived.Test.YtlpeijaeiioimaaWorks16
import Derived.Test.YtlpeijaeiioimaaCaseArgs
import Derived.Test.YtlpeijaeiioimaaExpertOnesW
namespace Go.Proofs.Ytlpeijaeiioimaa
open Go.RowKit Go.ChangeShapes Go.WideShapes Go.ChangeAt

def greatB (u d L : Nat) : Bool := decide (40 < u) || decide (40 < d) || decide (2000 < L)
set_option maxRecDepth 100000 in
set_option maxHeartbeats 1600000 in
theorem great_any (w : World) {A0 A1 A2 A3 : Option Addr} {L0 c0 u c1 dd c2 n c3 : Nat} {hidden k : Int} :
    Calls Try.prog 23 #[.agg #[.slice A0 L0 c0, .slice A1 u c1, .slice A2 dd c2, .int .i64 hidden, .int .i64 k, .slice A3 n c3]] w (fun e w' => e = .returned (.bool (greatB u dd L0)) ∧ Below w.heap.size w w') := by
  by_cases h1 : 40 < u
  · have h1' : (40 : Int) < (u : Int) := by omega
    go_enter Try.func23, Try.ntmps23
    go_wp2_with fail
    go_ret
    exact ⟨by simp [greatB, h1], ((Upd.refl (fun _ => False) w).alloc _).toB⟩
  · have h1' : ¬ (40 : Int) < (u : Int) := by omega
    by_cases h2 : 40 < dd
    · have h2' : (40 : Int) < (dd : Int) := by omega
      go_enter Try.func23, Try.ntmps23
      go_wp2_with fail
      go_ret
      exact ⟨by simp [greatB, h1, h2], ((Upd.refl (fun _ => False) w).alloc _).toB⟩
    · have h2' : ¬ (40 : Int) < (dd : Int) := by omega
      go_enter Try.func23, Try.ntmps23
      go_wp2_with fail
      go_ret
      exact ⟨by simp [greatB, h1, h2]; omega, ((Upd.refl (fun _ => False) w).alloc _).toB⟩
/-- what a mix comes to -/
def MixRow (w : World) (x : Int) (l : List Int) (e : Ending) (w' : World) : Prop := ∃ A n c, e = .returned (.tuple #[.slice A n c, .int .i64 x]) ∧ RdI w' w'.heap.size .i64 (.slice A n c) (if x = 0 then l else []) ∧ Below w.heap.size w w'
theorem mixRow_of {w : World} {x : Int} {l : List Int} {e : Ending} {w' : World} (h : MixPost w x l e w') : MixRow w x l e w' := by
  unfold MixPost at h
  by_cases hx : x = 0
  · rw [if_pos hx] at h
    obtain ⟨A, c, rfl, hO, hb⟩ := h
    refine ⟨A, l.length, c, by rw [hx], ?_, hb⟩
    rw [if_pos hx]
    exact Rd.of_own hO
  · rw [if_neg hx] at h
    obtain ⟨rfl, hb⟩ := h
    refine ⟨none, 0, 0, rfl, ?_, hb⟩
    rw [if_neg hx]
    exact rdi_nil _ _ _ _ _
/-- the cells of a case that is boxed -/
def CaseAt (w : World) (b : Nat) (v0 v1 v2 v3 v4 v5 : Value) : Prop := Blk w b 44 #[v0, v1, v2, v3, v4, v5]
theorem CaseAt.cells {w : World} {b : Nat} {v0 v1 v2 v3 v4 v5 : Value} (h : CaseAt w b v0 v1 v2 v3 v4 v5) : w.cell? ⟨b, 0, none⟩ = some v0 ∧ w.cell? ⟨b, 1, none⟩ = some v1 ∧ w.cell? ⟨b, 2, none⟩ = some v2 ∧ w.cell? ⟨b, 3, none⟩ = some v3 ∧ w.cell? ⟨b, 4, none⟩ = some v4 ∧ w.cell? ⟨b, 5, none⟩ = some v5 :=
  ⟨(Blk.cell h 0).trans rfl, (Blk.cell h 1).trans rfl, (Blk.cell h 2).trans rfl, (Blk.cell h 3).trans rfl, (Blk.cell h 4).trans rfl, (Blk.cell h 5).trans rfl⟩
theorem CaseAt.below {w w' : World} {b : Nat} {v0 v1 v2 v3 v4 v5 : Value} (h : CaseAt w b v0 v1 v2 v3 v4 v5) (hb : Below w.heap.size w w') : CaseAt w' b v0 v1 v2 v3 v4 v5 := Blk.upd h (Upd.of_below (S := fun _ => False) hb) (fun h => h)

set_option maxRecDepth 100000 in
set_option maxHeartbeats 3200000 in
theorem expertFirst_walk {w : World} {B : Nat} {A0 A1 A2 A3 : Option Addr} {L0 c0 u c1 dd c2 n c3 : Nat} {router xs : List Int} {U D : List (List Int)} {hidden k : Int} (hr : RdI w B .i8 (.slice A0 L0 c0) router) (hu : RdR w B (.slice A1 u c1) U) (hd : RdR w B (.slice A2 dd c2) D) (hx : RdI w B .i64 (.slice A3 n c3) xs) (hw : Wt router) (hbig : L0 ≤ 4294967296) (hwu : WtR U) (hwd : WtR D) (hbu : u ≤ 4294967296) :
    Calls Try.prog 6 #[.agg #[.slice A0 L0 c0, .slice A1 u c1, .slice A2 dd c2, .int .i64 hidden, .int .i64 k, .slice A3 n c3]] w (TruePost w) := by
  have HC : Hid (CaseAt (w.alloc (.cells #[.slice A0 L0 c0, .slice A1 u c1, .slice A2 dd c2, .int .i64 hidden, .int .i64 k, .slice A3 n c3] 44)) w.heap.size (.slice A0 L0 c0) (.slice A1 u c1) (.slice A2 dd c2) (.int .i64 hidden) (.int .i64 k) (.slice A3 n c3)) := Blk.new w _ _
  have HB0 : Hid (Below w.heap.size w (w.alloc (.cells #[.slice A0 L0 c0, .slice A1 u c1, .slice A2 dd c2, .int .i64 hidden, .int .i64 k, .slice A3 n c3] 44))) := below_alloc w _
  have hul := (rdr_len hu).1
  have hdl := (rdr_len hd).1
  have HRr := hid_ hr
  have HUu := hid_ hu
  have HDd := hid_ hd
  have HXx := hid_ hx
  have HW := hid_ hw
  have HWU := hid_ hwu
  have HWD := hid_ hwd
  have HUL := hid_ hul
  have HDL := hid_ hdl
  obtain ⟨gv, hgv⟩ : ∃ gv, greatB u dd L0 = gv := ⟨_, rfl⟩
  have hG := hid_ (fun w => great_any (A0 := A0) (A1 := A1) (A2 := A2) (A3 := A3) (L0 := L0) (c0 := c0) (u := u) (c1 := c1) (dd := dd) (c2 := c2) (n := n) (c3 := c3) (hidden := hidden) (k := k) w)
  rw [hgv] at hG
  clear hr hu hd hx hw hwu hwd hul hdl hgv
  go_enter Try.func6, Try.ntmps6
  go_upto_region 1 with fail
  generalize (w.alloc (.cells #[.slice A0 L0 c0, .slice A1 u c1, .slice A2 dd c2, .int .i64 hidden, .int .i64 k, .slice A3 n c3] 44)) = w0 at *
  cases gv with
  | true =>
    go_wp2_with (first
      | ((go_at_call 30); (refine (works16_any _).mono ?_); (rintro e w1 ⟨rfl, hb⟩); (have HC1 := hid_ (HC.out.below hb)); (obtain ⟨d0, d1, d2, d3, d4, d5⟩ := HC1.out.cells); (have HB1 := hid_ (below_comp HB0.out hb)); (clear hb))
      | ((go_at_call 23); (refine (hG.out _).mono ?_); (rintro e w2 ⟨rfl, hb⟩); (have HC2 := hid_ (HC1.out.below hb)); (clear d0 d1 d2 d3 d4 d5); (obtain ⟨d0, d1, d2, d3, d4, d5⟩ := HC2.out.cells); (have HB2 := hid_ (below_comp HB1.out hb)); (clear hb)))
    go_ret
    exact ⟨rfl, HB2.out⟩
  | false =>
    by_cases h1 : u < 2
    · have h1' : (u : Int) < 2 := by omega
      go_wp2_with (first
        | ((go_at_call 30); (refine (works16_any _).mono ?_); (rintro e w1 ⟨rfl, hb⟩); (have HC1 := hid_ (HC.out.below hb)); (obtain ⟨d0, d1, d2, d3, d4, d5⟩ := HC1.out.cells); (have HB1 := hid_ (below_comp HB0.out hb)); (clear hb))
        | ((go_at_call 23); (refine (hG.out _).mono ?_); (rintro e w2 ⟨rfl, hb⟩); (have HC2 := hid_ (HC1.out.below hb)); (clear d0 d1 d2 d3 d4 d5); (obtain ⟨d0, d1, d2, d3, d4, d5⟩ := HC2.out.cells); (have HB2 := hid_ (below_comp HB1.out hb)); (clear hb)))
      go_ret
      exact ⟨rfl, HB2.out⟩
    have h1' : ¬ (u : Int) < 2 := by omega
    by_cases h2 : u ≠ dd
    · have h2' : ((u : Int) != (dd : Int)) = true := by rw [bne_iff_ne]; omega
      go_wp2_with (first
        | ((go_at_call 30); (refine (works16_any _).mono ?_); (rintro e w1 ⟨rfl, hb⟩); (have HC1 := hid_ (HC.out.below hb)); (obtain ⟨d0, d1, d2, d3, d4, d5⟩ := HC1.out.cells); (have HB1 := hid_ (below_comp HB0.out hb)); (clear hb))
        | ((go_at_call 23); (refine (hG.out _).mono ?_); (rintro e w2 ⟨rfl, hb⟩); (have HC2 := hid_ (HC1.out.below hb)); (clear d0 d1 d2 d3 d4 d5); (obtain ⟨d0, d1, d2, d3, d4, d5⟩ := HC2.out.cells); (have HB2 := hid_ (below_comp HB1.out hb)); (clear hb)))
      go_ret
      exact ⟨rfl, HB2.out⟩
    obtain rfl : u = dd := by omega
    clear h2
    by_cases hm : MatOk router u xs
    · have hm' := hm
      unfold MatOk at hm'
      rw [(rdi_len HXx.out).1, (rdi_len HRr.out).1, ← Int.natCast_mul] at hm'
      have hm3 : L0 = u * n := Int.ofNat.inj hm'.2.2
      have hn0 : 0 < n := hm'.1
      have hML := hid_ (matL_length router xs u)
      have HFL := hid_ (mix_first (router := router) (xs := xs) (U := U) (D := D) (hidden := hidden) (by rw [HUL.out]; omega) (by rw [HUL.out, HDL.out]) (by rw [HUL.out]; exact hm))
      rw [HUL.out] at HFL
      have hmx := maxV_in (xs := matL router xs u) (by rw [hML.out]; omega)
      rw [hML.out] at hmx
      obtain ⟨z, hz⟩ : ∃ z : Nat, maxV (matL router xs u) = z := ⟨(maxV (matL router xs u)).toNat, by omega⟩
      have HZ := hid_ hz
      rw [hz] at HFL hmx
      have hzu : (z : Int) < (u : Int) := hmx.2
      have HO9 : Hid (mixOne U D hidden xs (z : Int) = oneV (U.getD z []) (D.getD z []) hidden xs) := rfl
      clear hm hm' hz hmx
      obtain ⟨r, hr9⟩ : ∃ r, mixOne U D hidden xs (z : Int) = r := ⟨_, rfl⟩
      obtain ⟨x, hx9⟩ : ∃ x : Int, (if r.isSome then 0 else 21) = x := ⟨_, rfl⟩
      have hMx : ∀ w5, Below w.heap.size w w5 → Calls Try.prog 24 #[.slice A0 L0 c0, .slice A1 u c1, .slice A2 u c2, .int .i64 hidden, .int .i64 1, .slice A3 n c3] w5 (fun e w' => ∃ A n c, e = .returned (.tuple #[.slice A n c, .int .i64 x]) ∧ RdI w' w'.heap.size .i64 (.slice A n c) (r.getD []) ∧ Below w5.heap.size w5 w') := by
        intro w5 hb
        refine (mix_any (k := 1) (rdi_below HRr.out hb) (rdi_below HXx.out hb) HW.out hbig (rdr_below HUu.out hb) (rdr_below HDd.out hb) HWU.out HWD.out).mono ?_
        intro e w' h
        obtain ⟨A, n, c, he, hr, hb⟩ := mixRow_of h
        obtain ⟨h1, h2⟩ := HFL.out
        rw [hr9, hx9] at h1
        rw [h1] at he hr
        refine ⟨A, n, c, he, ?_, hb⟩
        cases r with
        | none =>
          have : x = 21 := hx9.symm
          rw [if_neg (by omega)] at hr
          exact hr
        | some y =>
          have : x = 0 := hx9.symm
          rw [if_pos this, h2 y hr9] at hr
          exact hr
      have hOn : ∀ w5 m1 e1 m2 e2 B1 B2 E1 E2, Below w.heap.size w w5 → RdI w5 B1 .i8 (.slice E1 m1 e1) (U.getD z []) → RdI w5 B2 .i8 (.slice E2 m2 e2) (D.getD z []) → Calls Try.prog 13 #[.slice E1 m1 e1, .slice E2 m2 e2, .int .i64 hidden, .slice A3 n c3] w5 (fun e w' => ∃ A n c, e = .returned (.tuple #[.slice A n c, .int .i64 x]) ∧ RdI w' w'.heap.size .i64 (.slice A n c) (r.getD []) ∧ Below w5.heap.size w5 w') := by
        intro w5 m1 e1 m2 e2 B1 B2 E1 E2 hb h1 h2
        have q1 := HWU.out z (by rw [HUL.out]; omega)
        have q2 := HWD.out z (by rw [HDL.out]; omega)
        have h := one_any (hidden := hidden) h1 h2 (rdi_below HXx.out hb) q1.1 q2.1 (by rw [← (rdi_len h1).1]; exact q1.2) (by rw [← (rdi_len h2).1]; exact q2.2)
        rw [← HO9.out, hr9] at h
        refine h.mono ?_
        intro e w' h
        obtain ⟨A, n, c, x', he, hr, hx', hb⟩ := rowVal_of h
        obtain rfl : x' = x := hx'.trans hx9
        exact ⟨A, n, c, he, hr, hb⟩
      have HMX := hid_ hMx
      have HON := hid_ hOn
      clear hMx hOn HFL hr9 hx9 HO9
      have HMT := hid_ (fun w5 (hb : Below w.heap.size w w5) => rmat_ok u (rdi_below HRr.out hb) (rdi_below HXx.out hb) HW.out hn0 hm3 hbig)
      generalize matL router xs u = s at *
      have HU32 := hid_ hbu
      clear hm3 hbig hbu
      go_wp2_with (first
        | ((go_at_call 30); (refine (works16_any _).mono ?_); (rintro e w1 ⟨rfl, hb⟩); (have HC1 := hid_ (HC.out.below hb)); (obtain ⟨d0, d1, d2, d3, d4, d5⟩ := HC1.out.cells); (have HB1 := hid_ (below_comp HB0.out hb)); (clear hb))
        | ((go_at_call 23); (refine (hG.out _).mono ?_); (rintro e w2 ⟨rfl, hb⟩); (have HC2 := hid_ (HC1.out.below hb)); (clear d0 d1 d2 d3 d4 d5); (obtain ⟨d0, d1, d2, d3, d4, d5⟩ := HC2.out.cells); (have HB2 := hid_ (below_comp HB1.out hb)); (clear hb))
        | ((go_at_call 31); (refine (HMT.out _ HB2.out).mono ?_); (rintro e w3 ⟨A, c, rfl, hO, hb⟩); (rw [hML.out] at hO ⊢); (have HS3 := hid_ (show RdI w3 w3.heap.size .i64 (.slice A u c) s from Rd.of_own hO)); (have HC3 := hid_ (HC2.out.below hb)); (clear d0 d1 d2 d3 d4 d5); (obtain ⟨d0, d1, d2, d3, d4, d5⟩ := HC3.out.cells); (have HB3 := hid_ (below_comp HB2.out hb)); (clear hb hO))
        | ((go_at_call 32); (refine (rmax_any HS3.out (by rw [hML.out]; exact HU32.out)).mono ?_); (rintro e w4 ⟨rfl, hb⟩); (rw [HZ.out]); (have HC4 := hid_ (HC3.out.below hb)); (clear d0 d1 d2 d3 d4 d5); (obtain ⟨d0, d1, d2, d3, d4, d5⟩ := HC4.out.cells); (have HB4 := hid_ (below_comp HB3.out hb)); (clear hb))
        | ((go_at_call 24); (refine (HMX.out _ HB4.out).mono ?_); (rintro e w5 ⟨A5, n5, c5, rfl, hr5, hb⟩); (have HR5 := hid_ hr5); (have HC5 := hid_ (HC4.out.below hb)); (clear d0 d1 d2 d3 d4 d5); (obtain ⟨d0, d1, d2, d3, d4, d5⟩ := HC5.out.cells); (have HB5 := hid_ (below_comp HB4.out hb)); (clear hb hr5)))
      obtain ⟨b1, o1, E1, m1, e1, B1, rfl, x1, r1⟩ := rdr_cell (rdr_below HUu.out HB5.out) (j := z) (by rw [HUL.out]; omega)
      obtain ⟨b2, o2, E2, m2, e2, B2, rfl, x2, r2⟩ := rdr_cell (rdr_below HDd.out HB5.out) (j := z) (by rw [HDL.out]; omega)
      have HR1 := hid_ r1
      have HR2 := hid_ r2
      have HBD : Hid (Below w5.heap.size w5 (w5.drewN 1)) := below_drawn ⟨1, rfl⟩
      clear r1 r2 HMX HMT hG
      go_region_held3 (fun w' => w'.cell? ⟨w.heap.size, 1, none⟩ = some (.slice (some ⟨b1, o1, none⟩) u c1) ∧ w'.cell? ⟨w.heap.size, 2, none⟩ = some (.slice (some ⟨b2, o2, none⟩) u c2) ∧ w'.cell? ⟨w.heap.size, 3, none⟩ = some (.int .i64 hidden) ∧ w'.cell? ⟨w.heap.size, 5, none⟩ = some (.slice A3 n c3) ∧ w'.cell? ⟨b1, o1 + z, none⟩ = some (.slice E1 m1 e1) ∧ w'.cell? ⟨b2, o2 + z, none⟩ = some (.slice E2 m2 e2)) (go_keep) ((first | (go_at_call 13; (refine (HON.out (w5.drewN 1) _ _ _ _ _ _ _ _ (below_comp HB5.out HBD.out) (rdi_below HR1.out HBD.out) (rdi_below HR2.out HBD.out)).mono ?_); (rintro e w6 ⟨A6, n6, c6, rfl, hr6, hb⟩); (have hb := below_comp HBD.out hb); (have k1 := cell_below (w := w5) (w' := w6) d1 hb); (have k2 := cell_below (w := w5) (w' := w6) d2 hb); (have k3 := cell_below (w := w5) (w' := w6) d3 hb); (have k5 := cell_below (w := w5) (w' := w6) d5 hb); (have y1 := cell_below (w := w5) (w' := w6) x1 hb); (have y2 := cell_below (w := w5) (w' := w6) x2 hb); (have HR6 := hid_ hr6); (have HR56 := hid_ (rdi_below HR5.out hb)); (have HB6 := hid_ (below_comp HB5.out hb)); (clear hb hr6))))
      go_wp2_with ((go_at_call 15); (refine (same4q HR56.out HR6.out).mono ?_); (rintro e w7 ⟨rfl, hb⟩); (have HB7 := hid_ (below_comp HB6.out hb)); (clear hb))
      go_ret
      exact ⟨rfl, HB7.out⟩
    · have HN := hid_ hm
      clear hm
      go_wp2_with (first
        | ((go_at_call 30); (refine (works16_any _).mono ?_); (rintro e w1 ⟨rfl, hb⟩); (have HC1 := hid_ (HC.out.below hb)); (obtain ⟨d0, d1, d2, d3, d4, d5⟩ := HC1.out.cells); (have HB1 := hid_ (below_comp HB0.out hb)); (clear hb))
        | ((go_at_call 23); (refine (hG.out _).mono ?_); (rintro e w2 ⟨rfl, hb⟩); (have HC2 := hid_ (HC1.out.below hb)); (clear d0 d1 d2 d3 d4 d5); (obtain ⟨d0, d1, d2, d3, d4, d5⟩ := HC2.out.cells); (have HB2 := hid_ (below_comp HB1.out hb)); (clear hb))
        | ((go_at_call 31); (refine (rmat_no (rdi_below HRr.out HB2.out) (rdi_below HXx.out HB2.out) HN.out hbig).mono ?_); (rintro e w3 ⟨rfl, hb⟩); (have HB3 := hid_ (below_comp HB2.out hb)); (clear hb)))
      go_ret
      exact ⟨rfl, HB3.out⟩

set_option maxRecDepth 100000 in
theorem expertFirst_args {H : Type} {enc : TypeId × Value → H} {W : World} {base : Nat} {v0 : Value} {d0 : DataW H} {p0 : List MemPlace} {gs : List (DataW H)}
    (h0 : DataW.Trod enc Try.prog W 0 (fun _ => true) true 44 v0 d0 p0) (k0 : Value.okWide Try.prog W .any base 44 v0)
    (hk : Rows.uptoSmall H ([d0] ++ gs) = true) :
    Calls Try.prog 6 #[v0] W (TruePost W) := by
  have hb := bulk_all hk
  have hb0 := bulk_mem (d := d0) (l := [d0] ++ gs) (by simp)
  obtain ⟨A0, A1, A2, A3, L0, c0, u, c1, dd, c2, n, c3, hidden, k, router, xs, U, D, rfl, hr, _, w0, hu, _, hd, _, wu, wd, hx, _, l0, l1, l2, l3⟩ := case_open h0 k0
  have e1 := (rdi_len hr).1
  have e2 := (rdr_len hu.r).1
  exact expertFirst_walk hr hu.r hd.r hx (wf_i8 w0) (by omega) (fun i hi => ⟨wf_i8 (wu i hi).1, by have := (wu i hi).2; omega⟩) (fun i hi => ⟨wf_i8 (wd i hi).1, by have := (wd i hi).2; omega⟩) (by omega)
end Go.Proofs.Ytlpeijaeiioimaa
