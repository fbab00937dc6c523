/- The statement's own walk: the best of any beams with a token more. Conditions: the case is read in an argument. -/
import Derived.Test.YtfinbkpmkgpffaaBeamCopy
import Derived.Test.YtfinbkpmkgpffaaSame
import Derived.Test.YtfinbkpmkgpffaaLawRow
namespace Go.Proofs.Ytfinbkpmkgpffaa
open Go.RowKit

theorem growB_len (L : List Bm) (R : List (List Int)) (width length stop : Int) : (growB L R width length stop).length ≤ 4 := by
  unfold growB
  by_cases h : growE L R width = 0
  · rw [if_pos h, List.length_map, bestOf, List.length_take]
    have hw : width ≤ 4 := by
      unfold growE at h
      by_cases h1 : width < 1 ∨ 4 < width
      · rw [if_pos h1] at h
        omega
      · omega
    have : clamp width (candV L R length stop).length ≤ 4 := by unfold clamp; omega
    omega
  · rw [if_neg h]
    exact Nat.zero_le _
theorem rsameB_true {w : World} {v u : Value} {X Y : List Bx} (hx : RdBms w v X) (hy : RdBms w u Y) (he : bms X = bms Y) :
    Calls Try.prog 33 #[v, u] w (fun e w' => e = .returned (.bool true) ∧ Below w.heap.size w w') := by
  refine (rsameB_any hx hy).mono ?_
  rintro e w' ⟨rfl, h⟩
  exact ⟨by rw [decide_eq_true he], below_drawn h⟩
theorem same7b {w : World} {B B' : Nat} {v u : Value} {l : List Int} (h1 : RdI w B .i64 v l) (h2 : RdI w B' .i64 u l) : Calls Try.prog 22 #[v, u] w (fun e w' => e = .returned (.bool true) ∧ Below w.heap.size w w') := by
  refine (same07_any h1 h2).mono ?_
  rintro e w' ⟨rfl, h⟩
  exact ⟨by rw [decide_eq_true rfl], below_drawn h⟩
theorem sum_mem_le {l : List Nat} {x : Nat} (h : x ∈ l) : x ≤ l.sum := by
  induction l with
  | nil => cases h
  | cons y l ih =>
    rw [List.sum_cons]
    rcases List.mem_cons.1 h with rfl | h
    · omega
    · have := ih h
      omega
theorem bms_tok {X : List Bx} {N : Nat} (h : ((bms X).map (fun b => b.tokens.length)).sum < N) : ∀ x ∈ X, x.b.tokens.length < N := fun x hx => by
  have := sum_mem_le (l := (bms X).map (fun b => b.tokens.length)) (x := x.b.tokens.length) (List.mem_map.2 ⟨x.b, List.mem_map.2 ⟨x, hx, rfl⟩, rfl⟩)
  omega
theorem CaseB.Ok.below {w w' : World} {k : CaseB} (hk : k.Ok w) (hb : Below w.heap.size w w') : k.Ok w' := ⟨rdbms_below hk.l hb, rdrows_below hk.s hb, hk.nx, hk.nr, hk.tk, hk.rl⟩
/-- the cells of a case's own copy -/
def CaseD (w : World) (k : CaseB) (W : World) : Prop :=
  W.cell? ⟨w.heap.size, 0, none⟩ = some k.lv ∧ W.cell? ⟨w.heap.size, 1, none⟩ = some k.sv ∧ W.cell? ⟨w.heap.size, 2, none⟩ = some (.int .i64 k.width) ∧ W.cell? ⟨w.heap.size, 3, none⟩ = some (.int .i64 k.length) ∧ W.cell? ⟨w.heap.size, 4, none⟩ = some (.int .i64 k.stop) ∧ W.cell? ⟨w.heap.size, 5, none⟩ = some (.int .i64 k.penalty)
theorem case_d {w W : World} {k : CaseB} (hb : Below (w.alloc (.cells k.vals.toArray 43)).heap.size (w.alloc (.cells k.vals.toArray 43)) W) : CaseD w k W := by
  have h := (Blk.new w 43 k.vals.toArray).below hb (Blk.new w 43 k.vals.toArray).lt
  exact ⟨(h.cell 0).trans rfl, (h.cell 1).trans rfl, (h.cell 2).trans rfl, (h.cell 3).trans rfl, (h.cell 4).trans rfl, (h.cell 5).trans rfl⟩
/-- behind the making of the copy -/
structure Aft (w : World) (k : CaseB) (W : World) : Prop where
  a : Below (w.alloc (.cells k.vals.toArray 43)).heap.size (w.alloc (.cells k.vals.toArray 43)) W
theorem Aft.next {w W W' : World} {k : CaseB} (h : Aft w k W) (hb : Below W.heap.size W W') : Aft w k W' := ⟨below_comp h.a hb⟩
theorem Aft.b {w W : World} {k : CaseB} (h : Aft w k W) : Below w.heap.size w W := ((Upd.refl (fun _ => False) w).alloc _ |>.below h.a).toB
theorem Aft.d {w W : World} {k : CaseB} (h : Aft w k W) : CaseD w k W := case_d h.a
theorem Aft.drew {w W : World} {k : CaseB} (h : Aft w k W) : Aft w k W.drew := h.next ((Upd.refl (fun _ => False) W).drew).toB

set_option maxRecDepth 100000 in
set_option maxHeartbeats 4000000 in
theorem beamGrows_any {w : World} {k : CaseB} (hk : k.Ok w) : Calls Try.prog 8 #[.agg k.vals.toArray] w (TruePost w) := by
  have HK := hid_ hk
  have HG := hid_ (great_any (hk.below (below_alloc w (.cells k.vals.toArray 43))))
  obtain ⟨hl, hs, hnx, hnr, htk, hrl⟩ := hk
  obtain ⟨lv, X, sv, R, width, length, stop, penalty⟩ := k
  obtain ⟨k, hkk⟩ : ∃ k : CaseB, k = ⟨lv, X, sv, R, width, length, stop, penalty⟩ := ⟨_, rfl⟩
  have HAB : Hid (∀ W', Below (w.alloc (.cells #[lv, sv, .int .i64 width, .int .i64 length, .int .i64 stop, .int .i64 penalty] 43)).heap.size (w.alloc (.cells #[lv, sv, .int .i64 width, .int .i64 length, .int .i64 stop, .int .i64 penalty] 43)) W' → Aft w ⟨lv, X, sv, R, width, length, stop, penalty⟩ W') := fun W' h => ⟨h⟩
  rw [← hkk] at HK HAB
  have HAN : Hid (∀ W W', Aft w k W → Below W.heap.size W W' → Aft w k W') := fun W W' h hb => h.next hb
  have HD : Hid (∀ W, Aft w k W → CaseD w ⟨lv, X, sv, R, width, length, stop, penalty⟩ W) := fun W h => hkk ▸ h.d
  have HL : Hid (∀ W, Aft w k W → RdBms W lv X) := fun W h => by
    have h1 := (HK.out.below h.b).l
    rw [hkk] at h1
    exact h1
  have HS : Hid (∀ W, Aft w k W → RdRows W sv R) := fun W h => by
    have h1 := (HK.out.below h.b).s
    rw [hkk] at h1
    exact h1
  have HBW : Hid (∀ W, Aft w k W → Below w.heap.size w W) := fun W h => h.b
  clear hkk
  simp only [CaseB.vals, CaseD] at *
  obtain ⟨A, c, rfl, hXc, _⟩ := rdbms_form hl
  obtain ⟨A2, c2, rfl, hRc, _, _⟩ := id hs
  clear hl hs htk hrl HK
  go_enter Try.func8, Try.ntmps8
  go_wp2_with ((go_at_call 29); (refine HG.out.mono ?_); (rintro e w2 ⟨⟨b, rfl, hgb⟩, hb2⟩); (have HGB := hid_ hgb); (have HA2 := hid_ (HAB.out _ hb2)); (obtain ⟨d0, d1, d2, d3, d4, d5⟩ := HD.out w2 HA2.out); (clear hgb hb2))
  · go_ret
    exact ⟨rfl, HBW.out w2 HA2.out⟩
  · have hbf : b = false := by first | assumption | exact Bool.eq_false_iff.2 (by assumption)
    have hto := HGB.out hbf
    unfold CaseB.total at hto
    simp only at hto
    have hxl : X.length < 200 := by omega
    have HSZ : Hid (X.length + (R.map List.length).sum < 200) := by
      show _
      exact (by omega : X.length + (R.map List.length).sum < 200)
    have HTK : Hid (∀ x ∈ X, x.b.tokens.length < 200) := bms_tok (by omega)
    have HTO : Hid (∀ W, Aft w k W → Calls Try.prog 30 #[.slice A X.length c] W (fun e w' => ∃ u Y, e = .returned u ∧ RdBms w' u Y ∧ bms Y = bms X ∧ Below W.heap.size W w')) := fun W h => to_any (HL.out W h) (by omega) (fun x hx => Nat.lt_trans (HTK.out x hx) (by omega))
    have HGR : Hid (∀ W u Y, Aft w k W → RdBms W u Y → bms Y = bms X → Calls Try.prog 31 #[u, .slice A2 R.length c2, .int .i64 width, .int .i64 length, .int .i64 stop] W (GrowPost W (growE (bms X) R width) (growB (bms X) R width length stop) (growF (bms X) R width length stop))) := fun W u Y h hy hb => by
      have hyl : Y.length = X.length := by rw [← bms_length, hb, bms_length]
      have h1 := grow_any hy (HS.out W h) (by rw [hyl]; exact HSZ.out) (by omega) (bms_tok (by rw [hb]; omega)) width length stop
      rw [hb] at h1
      exact h1
    have HRG : Hid (∀ W, Aft w k W → Calls Try.prog 32 #[.slice A X.length c, .slice A2 R.length c2, .int .i64 width, .int .i64 length, .int .i64 stop] W (GrowPost W (growE (bms X) R width) (growB (bms X) R width length stop) (growF (bms X) R width length stop))) := fun W h => rgrow_run (HL.out W h) (HS.out W h) HSZ.out HTK.out width length stop
    have HLE := hid_ (growB_len (bms X) R width length stop)
    generalize growE (bms X) R width = E at *
    generalize growB (bms X) R width length stop = GB at *
    generalize growF (bms X) R width length stop = GF at *
    clear hto HGB
    go_wp2_with (first
      | ((go_at_call 30); (refine (HTO.out w2 HA2.out).mono ?_); (rintro e w3 ⟨u3, Y, rfl, hy3, hby, hb3⟩); (obtain ⟨A3, c3, rfl, _, _⟩ := rdbms_form hy3); (have HY3 := hid_ hy3); (have HBY := hid_ hby); (have HA3 := hid_ (HAN.out _ _ HA2.out hb3)); (obtain ⟨d0, d1, d2, d3, d4, d5⟩ := HD.out w3 HA3.out); (clear hy3 hby hb3))
      | ((go_at_call 31); (refine (HGR.out w3 _ Y HA3.out HY3.out HBY.out).mono ?_); (rintro e w4 ⟨va, pa, XA, rfl, hxa, hba, hpa, hb4⟩); (have HXA4 := hid_ hxa); (have HBA := hid_ hba); (have HPA4 := hid_ hpa); (have HY4 := hid_ (rdbms_below HY3.out hb4)); (have HA4 := hid_ (HAN.out _ _ HA3.out hb4)); (obtain ⟨d0, d1, d2, d3, d4, d5⟩ := HD.out w4 HA4.out); (clear hxa hba hpa hb4))
      | ((go_at_call 32); (refine (HRG.out w4 HA4.out).mono ?_); (rintro e w5 ⟨vb, pb, XB, rfl, hxb, hbb, hpb, hb5⟩); (have HXB5 := hid_ hxb); (have HBB := hid_ hbb); (have HPB5 := hid_ hpb); (have HXA5 := hid_ (rdbms_below HXA4.out hb5)); (have HPA5 := hid_ (rdi_below HPA4.out hb5)); (have HY5 := hid_ (rdbms_below HY4.out hb5)); (have HA5 := hid_ (HAN.out _ _ HA4.out hb5)); (obtain ⟨d0, d1, d2, d3, d4, d5⟩ := HD.out w5 HA5.out); (clear hxb hbb hpb hb5)))
    have hYl : Y.length = X.length := by rw [← bms_length, HBY.out, bms_length]
    have hXAl : XA.length ≤ 4 := by rw [← bms_length, HBA.out]; exact HLE.out
    clear HY3 HY4 HXA4 HPA4 HA3 HA4
    rw [hYl] at HY5
    have K1 : Hid True := trivial
    go_region_held3 (fun w' => w'.cell? ⟨w.heap.size, 0, none⟩ = some (.slice A X.length c)) (go_keep) ((first
      | (go_at_call 34; have h9 := K1; refine (from_any (X := XA) (rdbms_drawn HXA5.out 1) (by omega)).mono ?_; rintro e w6 ⟨u6, rfl, hx6, hb6⟩; have hb6' : Below w5.heap.size w5 w6 := (by first | exact below_comp ((Upd.refl (fun _ => False) _).drew).toB hb6 | exact hb6); have HX6 := hid_ hx6; have HA6 := hid_ (HAN.out _ _ HA5.out hb6'); have HXB6 := hid_ (rdbms_below HXB5.out hb6'); have HPA6 := hid_ (rdi_below HPA5.out hb6'); have HPB6 := hid_ (rdi_below HPB5.out hb6'); have HY6 := hid_ (rdbms_below HY5.out hb6'); obtain ⟨d0, _⟩ := HD.out w6 HA6.out; clear h9 K1 hx6 hb6 hb6')
      | (go_at_call 33; refine (rsameB_true (w := w6) HX6.out HXB6.out (HBA.out.trans HBB.out.symm)).mono ?_; rintro e w7 ⟨rfl, hb7⟩; have HA7 := hid_ (HAN.out _ _ HA6.out hb7); have HPA7 := hid_ (rdi_below HPA6.out hb7); have HPB7 := hid_ (rdi_below HPB6.out hb7); have HY7 := hid_ (rdbms_below HY6.out hb7); obtain ⟨d0, _⟩ := HD.out w7 HA7.out; clear hb7 HX6)
      | (go_at_call 22; refine (same7b (w := w7) HPA7.out HPB7.out).mono ?_; rintro e w8 ⟨rfl, hb8⟩; have HA8 := hid_ (HAN.out _ _ HA7.out hb8); have HY8 := hid_ (rdbms_below HY7.out hb8); obtain ⟨d0, _⟩ := HD.out w8 HA8.out; clear hb8)
      | (go_at_call 34; refine (from_any (w := w8) (X := Y) HY8.out (by omega)).mono ?_; rintro e w9 ⟨u9, rfl, hx9, hb9⟩; have HX9 := hid_ hx9; have HA9 := hid_ (HAN.out _ _ HA8.out hb9); have HY9 := hid_ (rdbms_below HY8.out hb9); obtain ⟨d0, _⟩ := HD.out w9 HA9.out; clear hx9 hb9)
      | (go_at_call 33; refine (rsameB_true (w := w9) HX9.out (HL.out w9 HA9.out) HBY.out).mono ?_; rintro e w10 ⟨rfl, hb10⟩; have HA10 := hid_ (HAN.out _ _ HA9.out hb10); have HY10 := hid_ (rdbms_below HY9.out hb10); obtain ⟨d0, _⟩ := HD.out w10 HA10.out; clear hb10 HX9)))
    clear HY5 HXB5 HPA5 HPB5 HXA5 HY6 HXB6 HPA6 HPB6 HA6 HA7 HA8 HA9 HPA7 HPB7 HY7 HY8 HY9 HA5 HTO HGR HRG HBA HBB HLE hXAl
    go_wp2_with fail
    go_loopw [10] (fun iv wr => ∃ i : Nat, i ≤ X.length ∧ iv = .int .i64 i ∧ Hid (Aft w k wr) ∧ Hid (RdBms wr (.slice A3 X.length c3) Y)) (fun iv _ => X.length - (intOf iv).toNat)
    case atStart => exact ⟨0, Nat.zero_le _, rfl, HA10, HY10⟩
    case round =>
      obtain ⟨i, hi, rfl, HAr, HYr⟩ := hrel
      clear HA10 HY10
      obtain ⟨d0, d1, d2, d3, d4, d5⟩ := HD.out wr HAr.out
      by_cases hlt : i < X.length
      · have hlt' : (i : Int) < (X.length : Int) := by omega
        obtain ⟨x, hx1, hx2, _⟩ := bx_get hlt
        obtain ⟨y, hy1, hy2, _⟩ := bx_get (X := Y) (i := i) (by omega)
        have hxy : y.b = x.b := by
          rw [HBY.out, hx2] at hy2
          injection hy2 with hy2
          exact hy2.symm
        have htl := HTK.out x (List.mem_of_getElem? hx1)
        have hatx := rdbms_at (HL.out wr HAr.out) hx1
        have haty := rdbms_at HYr.out hy1
        obtain ⟨b, o, rfl, hbl, p0, p1, p2⟩ := hatx.ex
        obtain ⟨b3, o3, rfl, hbl3, q0, q1, q2⟩ := haty.ex
        have htx := hatx.tok
        have hty := haty.tok
        obtain ⟨xv, ⟨tk, sc, dn⟩⟩ := x
        obtain ⟨yv, yb⟩ := y
        simp only at hxy
        subst hxy
        obtain ⟨TA, tc, he, _, _, _⟩ := RdI.form htx
        obtain ⟨TB, td, he2, _, _, _⟩ := RdI.form hty
        simp only at he he2 p0 p1 p2 q0 q1 q2 htl
        subst he he2
        generalize tk.length = n at *
        have HSX : Hid (∀ W, Below wr.heap.size wr W → (W.cell? ⟨b, o + i * 3, none⟩ = some (.slice TA n tc) ∧ W.cell? ⟨b, o + i * 3 + 1, none⟩ = some (.int .i64 sc) ∧ W.cell? ⟨b, o + i * 3 + 2, none⟩ = some (.bool dn)) ∧ (W.cell? ⟨b3, o3 + i * 3, none⟩ = some (.slice TB n td) ∧ W.cell? ⟨b3, o3 + i * 3 + 1, none⟩ = some (.int .i64 sc) ∧ W.cell? ⟨b3, o3 + i * 3 + 2, none⟩ = some (.bool dn))) := fun W hW => ⟨⟨(hW.cell (p := ⟨b, o + i * 3, none⟩) hbl).trans p0, (hW.cell (p := ⟨b, o + i * 3 + 1, none⟩) hbl).trans p1, (hW.cell (p := ⟨b, o + i * 3 + 2, none⟩) hbl).trans p2⟩, (hW.cell (p := ⟨b3, o3 + i * 3, none⟩) hbl3).trans q0, (hW.cell (p := ⟨b3, o3 + i * 3 + 1, none⟩) hbl3).trans q1, (hW.cell (p := ⟨b3, o3 + i * 3 + 2, none⟩) hbl3).trans q2⟩
        clear hatx haty htx hty hx1 hx2 hy1 hy2
        go_wp2_with fail
        go_region_held3 (fun w' => (w'.cell? ⟨b, o + i * 3, none⟩ = some (.slice TA n tc) ∧ w'.cell? ⟨b, o + i * 3 + 1, none⟩ = some (.int .i64 sc) ∧ w'.cell? ⟨b, o + i * 3 + 2, none⟩ = some (.bool dn)) ∧ (w'.cell? ⟨b3, o3 + i * 3, none⟩ = some (.slice TB n td) ∧ w'.cell? ⟨b3, o3 + i * 3 + 1, none⟩ = some (.int .i64 sc) ∧ w'.cell? ⟨b3, o3 + i * 3 + 2, none⟩ = some (.bool dn)) ∧ w'.cell? ⟨w.heap.size, 0, none⟩ = some (.slice (some ⟨b, o, none⟩) X.length c) ∧ w'.cell? ⟨w.heap.size, 5, none⟩ = some (.int .i64 penalty)) (go_keep) ((first
          | (go_at_call 35; refine (final_any _ TB n td sc dn penalty (by omega)).mono ?_; rintro e w6 ⟨rfl, hb6⟩; have hb6' : Below wr.heap.size wr w6 := (by first | exact below_comp ((Upd.refl (fun _ => False) _).drew).toB hb6 | exact hb6); have HB6 := hid_ hb6'; have HA6 := hid_ (HAN.out _ _ HAr.out hb6'); obtain ⟨⟨s0, s1, s2⟩, s3, s4, s5⟩ := HSX.out w6 hb6'; obtain ⟨e0, e1, e2, e3, e4, e5⟩ := HD.out w6 HA6.out; clear hb6 hb6')
          | (go_at_call 36; refine (rfinal_any _ TA n tc sc dn penalty (by omega)).mono ?_; rintro e w7 ⟨rfl, hb7⟩; have hb7' : Below w6.heap.size w6 w7 := (by first | exact below_comp ((Upd.refl (fun _ => False) _).drew).toB hb7 | exact hb7); have hb7w := below_comp HB6.out hb7'; have HB7 := hid_ hb7w; have HA7 := hid_ (HAN.out _ _ HA6.out hb7'); obtain ⟨⟨s0, s1, s2⟩, s3, s4, s5⟩ := HSX.out w7 hb7w; obtain ⟨e0, e1, e2, e3, e4, e5⟩ := HD.out w7 HA7.out; clear hb7 hb7' hb7w)))
        have HY7 := hid_ (rdbms_below HYr.out HB7.out)
        go_wp2_with fail
        go_roundw
        case rel => exact ⟨i + 1, by omega, by go_num, HA7, HY7⟩
        case measure => simp [intOf]; omega
      · obtain rfl : i = X.length := by omega
        go_wp2_with fail
        have HBE : Hid (∀ W, Aft w k W → RdBms W (.slice A3 X.length c3) Y → Calls Try.prog 37 #[.slice A3 X.length c3, .int .i64 penalty] W (fun e w' => e = .returned (.int .i64 (maxV (finalsV (bms X) penalty))) ∧ Below W.heap.size W w')) := fun W _ hy => by
          have h := best_any hy (by omega) penalty
          rw [HBY.out] at h
          exact h
        have HBR : Hid (∀ W, Aft w k W → Calls Try.prog 38 #[.slice A X.length c, .int .i64 penalty] W (fun e w' => e = .returned (.int .i64 (maxV (finalsV (bms X) penalty))) ∧ Below W.heap.size W w')) := fun W h => rbest_any (HL.out W h) (by omega) penalty
        generalize maxV (finalsV (bms X) penalty) = best at *
        go_region_held3 (fun w' => w'.cell? ⟨w.heap.size, 0, none⟩ = some (.slice A X.length c) ∧ w'.cell? ⟨w.heap.size, 5, none⟩ = some (.int .i64 penalty)) (go_keep) ((first
          | (go_at_call 37; refine (HBE.out _ (by first | exact HAr.out | exact HAN.out _ _ HAr.out ((Upd.refl (fun _ => False) wr).drew).toB) (by first | exact HYr.out | exact rdbms_drawn HYr.out 1)).mono ?_; rintro e w6 ⟨rfl, hb6⟩; have hb6' : Below wr.heap.size wr w6 := (by first | exact below_comp ((Upd.refl (fun _ => False) _).drew).toB hb6 | exact hb6); have HA6 := hid_ (HAN.out _ _ HAr.out hb6'); obtain ⟨e0, e1, e2, e3, e4, e5⟩ := HD.out w6 HA6.out; clear hb6 hb6')
          | (go_at_call 38; refine (HBR.out w6 HA6.out).mono ?_; rintro e w7 ⟨rfl, hb7⟩; have HA7 := hid_ (HAN.out _ _ HA6.out hb7); obtain ⟨e0, e1, e2, e3, e4, e5⟩ := HD.out w7 HA7.out; clear hb7)))
        go_wp2_with fail
        go_ret
        exact ⟨rfl, HBW.out w7 HA7.out⟩
end Go.Proofs.Ytfinbkpmkgpffaa
