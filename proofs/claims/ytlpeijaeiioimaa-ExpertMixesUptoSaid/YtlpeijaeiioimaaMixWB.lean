/- What several networks make of a row together, walked: the document's. Conditions: as for the program's. -/
import Derived.Test.YtlpeijaeiioimaaMixW
namespace Go.Proofs.Ytlpeijaeiioimaa
open Go.RowKit

set_option maxRecDepth 100000 in
set_option maxHeartbeats 1600000 in
theorem rmix_no1 {w : World} {A0 A1 A2 A3 : Option Addr} {L0 c0 u c1 d c2 n c3 : Nat} {hidden k : Int} (h : u = 0 ∨ u ≠ d) :
    Calls Try.prog 26 #[.slice A0 L0 c0, .slice A1 u c1, .slice A2 d c2, .int .i64 hidden, .int .i64 k, .slice A3 n c3] w (RowNo w 21) := by
  by_cases h0 : u = 0
  · subst h0
    clear h
    go_enter Try.func26, Try.ntmps26
    go_wp2_with fail
    go_ret2
    exact ⟨rfl, Below.refl _ _⟩
  · have hne : ((u : Int) != (d : Int)) = true := by rw [bne_iff_ne]; omega
    have hz : ((u : Int) == 0) = false := by rw [beq_eq_false_iff_ne]; omega
    clear h h0
    go_enter Try.func26, Try.ntmps26
    go_wp2_with fail
    go_ret2
    exact ⟨rfl, Below.refl _ _⟩

set_option maxRecDepth 100000 in
set_option maxHeartbeats 3200000 in
theorem rmix_one {w : World} {B1 B2 B3 : Nat} {A0 A1 A2 A3 : Option Addr} {L0 c0 c1 c2 n c3 : Nat} {hidden k : Int} {U D : List (List Int)} {xs : List Int}
    (hu : RdR w B1 (.slice A1 1 c1) U) (hd : RdR w B2 (.slice A2 1 c2) D) (hx : RdI w B3 .i64 (.slice A3 n c3) xs) (hwu : WtR U) (hwd : WtR D) :
    Calls Try.prog 26 #[.slice A0 L0 c0, .slice A1 1 c1, .slice A2 1 c2, .int .i64 hidden, .int .i64 k, .slice A3 n c3] w (RowRes w (mixOne U D hidden xs 0)) := by
  have ul := (rdr_len hu).1
  have dl := (rdr_len hd).1
  obtain ⟨b1, o1, E1, m1, e1, B1', rfl, x1, r1⟩ := rdr_cell hu (j := 0) (by omega)
  obtain ⟨b2, o2, E2, m2, e2, B2', rfl, x2, r2⟩ := rdr_cell hd (j := 0) (by omega)
  have HO := hid_ (fun m => rone_any (hidden := hidden) (rdi_drew r1 m) (rdi_drew r2 m) (rdi_drew hx m) (hwu 0 (by omega)).1 (hwd 0 (by omega)).1 (by rw [← (rdi_len r1).1]; exact (hwu 0 (by omega)).2) (by rw [← (rdi_len r2).1]; exact (hwd 0 (by omega)).2))
  have HE : Hid (mixOne U D hidden xs 0 = oneV (U.getD 0 []) (D.getD 0 []) hidden xs) := rfl
  rw [HE.out]
  generalize oneV (U.getD 0 []) (D.getD 0 []) hidden xs = r at *
  rw [Nat.add_zero] at x1 x2
  clear hu hd hx hwu hwd ul dl r1 r2 HE
  go_enter Try.func26, Try.ntmps26
  go_wp2_with fail
  go_region_held3 (fun w' => w'.cell? ⟨b1, o1, none⟩ = some (.slice E1 m1 e1) ∧ w'.cell? ⟨b2, o2, none⟩ = some (.slice E2 m2 e2)) (go_keep) ((first | (go_at_call 14; (refine (HO.out 1).mono ?_); (rintro e w3 h3); (obtain ⟨A, nn, c, x, rfl, hb3, h4⟩ := rowRes_form h3); (have hb3 := below_comp (below_drawn (w := w) (w' := w.drewN 1) ⟨1, rfl⟩) hb3); (have k1 := cell_below (w := w) (w' := w3) x1 hb3); (have k2 := cell_below (w := w) (w' := w3) x2 hb3); (have H4 := hid_ h4); (have HB3 := hid_ hb3); (clear h3 h4 hb3))))
  go_wp2_with fail
  go_ret2
  exact rowRes_move H4.out (Nat.le_refl _) (Upd.refl _ _) HB3.out

theorem rroute_no_any {w : World} {B B' : Nat} {A1 A2 : Option Addr} {L1 c1 n c2 : Nat} {router xs : List Int} {m : Nat} {k : Int} {x : Int} (hE : routeE router xs m k = x) (hx0 : x ≠ 0) (hr : RdI w B .i8 (.slice A1 L1 c1) router) (hx : RdI w B' .i64 (.slice A2 n c2) xs) (hw : Wt router) (hbig : L1 ≤ 4294967296) :
    Calls Try.prog 28 #[.slice A1 L1 c1, .int .i64 (m : Int), .int .i64 k, .slice A2 n c2] w (RouteNo w x) := by
  refine (rroute_any (k := k) (m := m) hr hx hw hbig).mono ?_
  intro e w' h
  unfold RouteAny at h
  rw [hE, if_neg hx0] at h
  exact h
theorem rroute_ok_any {w : World} {B B' : Nat} {A1 A2 : Option Addr} {L1 c1 n c2 : Nat} {router xs : List Int} {m : Nat} {k : Int} (hE : routeE router xs m k = 0) (hr : RdI w B .i8 (.slice A1 L1 c1) router) (hx : RdI w B' .i64 (.slice A2 n c2) xs) (hw : Wt router) (hbig : L1 ≤ 4294967296) :
    Calls Try.prog 28 #[.slice A1 L1 c1, .int .i64 (m : Int), .int .i64 k, .slice A2 n c2] w (RouteOk w (routeC router xs m k) (routeP router xs m k) k.toNat) := by
  refine (rroute_any (k := k) (m := m) hr hx hw hbig).mono ?_
  intro e w' h
  unfold RouteAny at h
  rw [hE, if_pos rfl] at h
  exact h

set_option maxRecDepth 100000 in
set_option maxHeartbeats 3200000 in
theorem rmix_no2 {w : World} {B B' : Nat} {A0 A1 A2 A3 : Option Addr} {L0 c0 u c1 c2 n c3 : Nat} {router xs : List Int} {hidden k x : Int} (hu : 2 ≤ u) (hE : routeE router xs u k = x) (hx0 : x ≠ 0) (hr : RdI w B .i8 (.slice A0 L0 c0) router) (hx : RdI w B' .i64 (.slice A3 n c3) xs) (hw : Wt router) (hbig : L0 ≤ 4294967296) :
    Calls Try.prog 26 #[.slice A0 L0 c0, .slice A1 u c1, .slice A2 u c2, .int .i64 hidden, .int .i64 k, .slice A3 n c3] w (RowNo w x) := by
  have HM := hid_ (rroute_no_any hE hx0 hr hx hw hbig)
  have hx1 : (x != 0) = true := by rw [bne_iff_ne]; exact hx0
  have hz : ((u : Int) == 0) = false := by rw [beq_eq_false_iff_ne]; omega
  have hz1 : ((u : Int) == 1) = false := by rw [beq_eq_false_iff_ne]; omega
  clear hE hr hx hw hbig hu hx0
  go_enter Try.func26, Try.ntmps26
  go_wp2_with ((go_at_call 28); (refine HM.out.mono ?_); (rintro e w3 ⟨rfl, hb⟩); (have HB3 := hid_ hb); (clear hb))
  go_ret2
  exact ⟨rfl, HB3.out⟩

set_option maxRecDepth 100000 in
set_option maxHeartbeats 6400000 in
set_option linter.unusedSimpArgs false in
theorem rmix_run {w : World} {B B' B1 B2 : Nat} {A0 A1 A2 A3 : Option Addr} {L0 c0 u c1 c2 n c3 : Nat} {router xs : List Int} {U D : List (List Int)} {hidden k : Int} (hu2 : 2 ≤ u) (hE : routeE router xs u k = 0) (hr : RdI w B .i8 (.slice A0 L0 c0) router) (hx : RdI w B' .i64 (.slice A3 n c3) xs) (hw : Wt router) (hbig : L0 ≤ 4294967296)
    (hu : RdR w B1 (.slice A1 u c1) U) (hd : RdR w B2 (.slice A2 u c2) D) (hwu : WtR U) (hwd : WtR D) :
    Calls Try.prog 26 #[.slice A0 L0 c0, .slice A1 u c1, .slice A2 u c2, .int .i64 hidden, .int .i64 k, .slice A3 n c3] w
      (MixRun w (mixAll U D hidden xs (routeC router xs u k) k.toNat) ((mixTo U D hidden xs (routeC router xs u k) (routeP router xs u k) k.toNat).map finV)) := by
  have HM := hid_ (rroute_ok_any hE hr hx hw hbig)
  have HUU := hid_ hu
  have HDD := hid_ hd
  have HXX := hid_ hx
  have HWU := hid_ hwu
  have HWD := hid_ hwd
  have hz : ((u : Int) == 0) = false := by rw [beq_eq_false_iff_ne]; omega
  have hz1 : ((u : Int) == 1) = false := by rw [beq_eq_false_iff_ne]; omega
  have hrange : ∀ i, i < k.toNat → 0 ≤ (routeC router xs u k).getD i 0 ∧ (routeC router xs u k).getD i 0 < (u : Int) := fun i hi => by
    have hE2 := hE
    unfold routeE at hE2
    split at hE2
    · cases hE2
    · have hml : (matL router xs u).length = u := matL_length _ _ _
      have h1 := chosenV_at (xs := matL router xs u) (k := k) (i := i) (by rw [hml]; unfold clamp; omega)
      rw [hml] at h1
      exact h1
  have hlc : (routeC router xs u k).length = k.toNat := by
    have hE2 := hE
    unfold routeE at hE2
    split at hE2
    · cases hE2
    · unfold routeC
      rw [chosenV_length, matL_length]; unfold clamp; omega
  have hlp : (routeP router xs u k).length = k.toNat := by rw [routeP, softV_length, routeB, bestL_length, hlc]
  have hn32 : n ≤ 4294967296 := by
    have hE2 := hE
    unfold routeE at hE2
    split at hE2
    · cases hE2
    · split at hE2
      · rename_i h9
        unfold MatOk at h9
        rw [(rdi_len hx).1, (rdi_len hr).1, ← Int.natCast_mul] at h9
        have h10 : L0 = u * n := Int.ofNat.inj h9.2.2
        have := Nat.le_mul_of_pos_left n (show 0 < u by omega)
        omega
      · cases hE2
  have hqs : k.toNat ≤ u := by
    have hE2 := hE
    unfold routeE at hE2
    split at hE2
    · cases hE2
    · omega
  obtain ⟨hxl, hnc, hnm⟩ := rdi_len hx
  obtain ⟨hul, huc, hum⟩ := rdr_len hu
  obtain ⟨hdl, hdc, hdm⟩ := rdr_len hd
  have HXL := hid_ hxl
  have HUL := hid_ hul
  have HDL := hid_ hdl
  have HRG := hid_ hrange
  have HLC := hid_ hlc
  have HLP := hid_ hlp
  unfold maxLen at hnm hum
  generalize routeC router xs u k = ch at *
  generalize routeP router xs u k = sh at *
  generalize k.toNat = q at *
  clear hE hr hx hw hbig hu2 hrange hlc hlp hu hd hwu hwd hxl hul hdl hdc hdm
  have hmk := fun w => make_i64s w n hn32
  go_enter Try.func26, Try.ntmps26
  go_wp2_with ((go_at_call 28); (refine HM.out.mono ?_); (rintro e w3 ⟨D1, d1, D2, d2, rfl, hc3, hs3, hb, _, _⟩); (have HB3 := hid_ hb); (have HC3 := hid_ hc3); (have HS3 := hid_ hs3); (clear hb hc3 hs3))
  have HCL := hid_ (HC3.out.upd ((Upd.refl (fun _ => False) w3).alloc (.cells (rowc (List.replicate n 0)) 2)) (fun _ h => h.elim))
  have HSL := hid_ (HS3.out.upd ((Upd.refl (fun _ => False) w3).alloc (.cells (rowc (List.replicate n 0)) 2)) (fun _ h => h.elim))
  have HBL := hid_ (Blk.new w3 2 (rowc (List.replicate n 0)))
  have HUW : Hid (Upd (fun _ => False) w (w3.alloc (.cells (rowc (List.replicate n 0)) 2))) := (Upd.of_below HB3.out).alloc _
  have hs0 := HB3.out.size
  generalize (w3.alloc (.cells (rowc (List.replicate n 0)) 2)) = WL at *
  obtain ⟨g, hg⟩ : ∃ g, w3.heap.size = g := ⟨_, rfl⟩
  rw [hg] at HCL HSL HBL hs0 ⊢
  clear HM HB3 HC3 HS3 hmk hg
  have HZ : Hid (mixTo U D hidden xs ch sh 0 = List.replicate n 0) := by show _ = _; rw [mixTo, HXL.out]
  go_loopw [18] (fun iv wr => ∃ i : Nat, i ≤ q ∧ iv = .int .i64 i ∧ Hid (mixAll U D hidden xs ch i) ∧ Hid (Blk wr g 2 (rowc (mixTo U D hidden xs ch sh i))) ∧ Hid (Upd (fun k => k = g) WL wr)) (fun iv _ => q - (intOf iv).toNat)
  case atStart => exact ⟨0, Nat.zero_le _, rfl, hid_ (fun j hj => by omega), hid_ (by rw [HZ.out]; exact HBL.out), hid_ (Upd.refl _ _)⟩
  case round =>
    obtain ⟨i, hi, rfl, HALL, HB, HU⟩ := hrel
    have HWR : Hid (Upd (fun _ => False) w wr) := (HUW.out).step HU.out (fun j h1 _ => by subst h1; exact .inr hs0)
    by_cases hlt : i < q
    · have hlt' : (i : Int) < (q : Int) := by omega
      obtain ⟨b, o, rfl, d1'⟩ := rdi_cell (HCL.out.upd HU.out (fun k hk => by omega)) (j := i) (by rw [HLC.out]; exact hlt)
      obtain ⟨h1, h2⟩ := HRG.out i hlt
      obtain ⟨z, hzz⟩ : ∃ z : Nat, ch.getD i 0 = z := ⟨(ch.getD i 0).toNat, by omega⟩
      rw [hzz] at d1' h1 h2
      obtain ⟨b1, o1, E1, m1, e1, B1', rfl, x1, r1⟩ := rdr_cell (rdr_below HUU.out HWR.out.toB) (j := z) (by rw [HUL.out]; omega)
      obtain ⟨b2, o2, E2, m2, e2, B2', rfl, x2, r2⟩ := rdr_cell (rdr_below HDD.out HWR.out.toB) (j := z) (by rw [HDL.out]; omega)
      have w1 := HWU.out z (by rw [HUL.out]; omega)
      have w2 := HWD.out z (by rw [HDL.out]; omega)
      have HO := hid_ (fun m => rone_any (hidden := hidden) (rdi_drew r1 m) (rdi_drew r2 m) (rdi_drew (rdi_below HXX.out HWR.out.toB) m) w1.1 w2.1 (by rw [← (rdi_len r1).1]; exact w1.2) (by rw [← (rdi_len r2).1]; exact w2.2))
      have HOZ : Hid (mixOne U D hidden xs (ch.getD i 0) = oneV (U.getD z []) (D.getD z []) hidden xs) := by show _ = _; rw [hzz]; rfl
      clear hzz r1 r2 w1 w2
      cases hone : oneV (U.getD z []) (D.getD z []) hidden xs with
      | none =>
        rw [hone] at HO HOZ
        clear hone
        go_wp2_with fail
        go_region_held3 (fun w' => w'.cell? ⟨b, o + i, none⟩ = some (.int .i64 z) ∧ w'.cell? ⟨b1, o1 + z, none⟩ = some (.slice E1 m1 e1) ∧ w'.cell? ⟨b2, o2 + z, none⟩ = some (.slice E2 m2 e2)) (go_keep) ((first | (go_at_call 14; (refine (HO.out 1).mono ?_); (rintro e w3 ⟨rfl, hb3⟩); (have hb3 := below_comp (below_drawn (w := wr) (w' := wr.drewN 1) ⟨1, rfl⟩) hb3); (have k0 := cell_below (w := wr) (w' := w3) d1' hb3); (have k1 := cell_below (w := wr) (w' := w3) x1 hb3); (have k2 := cell_below (w := wr) (w' := w3) x2 hb3); (have HB6 := hid_ hb3); (clear hb3))))
        go_wp2_with fail
        go_ret2
        rw [MixRun, if_neg (fun h => by have h3 := h i hlt; rw [HOZ.out] at h3; cases h3)]
        exact ⟨rfl, (HWR.out.below HB6.out).toB⟩
      | some y =>
        rw [hone] at HO HOZ
        clear hone
        have hyl : y.length = n := by rw [mixOne_length HOZ.out, HXL.out]
        have HYL := hid_ hyl
        clear hyl
        go_wp2_with fail
        go_region_held3 (fun w' => w'.cell? ⟨b, o + i, none⟩ = some (.int .i64 z) ∧ w'.cell? ⟨b1, o1 + z, none⟩ = some (.slice E1 m1 e1) ∧ w'.cell? ⟨b2, o2 + z, none⟩ = some (.slice E2 m2 e2)) (go_keep) ((first | (go_at_call 14; (refine (HO.out 1).mono ?_); (rintro e w3 ⟨A6, c6, rfl, hO6, hb3⟩); (rw [HYL.out] at hO6 ⊢); (have hb3 := below_comp (below_drawn (w := wr) (w' := wr.drewN 1) ⟨1, rfl⟩) hb3); (have k0 := cell_below (w := wr) (w' := w3) d1' hb3); (have k1 := cell_below (w := wr) (w' := w3) x1 hb3); (have k2 := cell_below (w := wr) (w' := w3) x2 hb3); (have HO6 := hid_ hO6); (have HB6 := hid_ hb3); (clear hO6 hb3))))
        go_wp2_with fail
        have HU6 : Hid (Upd (fun k => k = g) WL w3) := HU.out.step (T := fun _ => False) (Upd.of_below HB6.out) (fun _ h => h.elim)
        have HB7 := hid_ (HB.out.upd (Upd.of_below (S := fun _ => False) HB6.out) (fun h => h))
        have hgr : g < wr.heap.size := HB.out.lt
        have hml := mixTo_length (sh := sh) i HALL.out
        have hmw := mixTo_low (sh := sh) i HALL.out
        have hnx : mixTo U D hidden xs ch sh (i + 1) = mixAdd (sh.getD i 0) (mixTo U D hidden xs ch sh i) y := by rw [mixTo, HOZ.out, Option.getD_some]
        rw [HXL.out] at hml
        have hsd := rdi_cell (HSL.out) (j := i) (by rw [HLP.out]; exact hlt)
        obtain ⟨bs, os, rfl, _⟩ := hsd
        generalize mixTo U D hidden xs ch sh i = s at *
        obtain ⟨p, hp⟩ : ∃ p, sh.getD i 0 = p := ⟨_, rfl⟩
        rw [hp] at hnx
        have HPP := hid_ hp
        clear hp
        have HNX := hid_ hnx
        have HML := hid_ hml
        have HMW := hid_ hmw
        clear hnx hml hmw
        obtain ⟨wo, rfl⟩ : ∃ wo : World, wo = wr := ⟨_, rfl⟩
        go_loopw [21] (fun jv wi => ∃ j : Nat, j ≤ n ∧ jv = .int .i64 j ∧ Hid (Blk wi g 2 (rowc (blend (mixAdd p s y) s j))) ∧ Hid (Upd (fun k => k = g) WL wi) ∧ Hid (wi.ownsRow wo.heap.size 2 1 (.slice A6 n c6) n (y.map (Value.int .i64)))) (fun jv _ => n - (intOf jv).toNat)
        case atStart => exact ⟨0, Nat.zero_le _, rfl, hid_ (by rw [blend_zero]; exact HB7.out), HU6, HO6⟩
        case round =>
          obtain ⟨j, hj, rfl, HBj, HUj, HOj⟩ := hrel
          by_cases hlj : j < n
          · have hlj' : (j : Int) < (n : Int) := by omega
            have hal : (mixAdd p s y).length = s.length := mixAdd_length (by rw [HML.out, HYL.out])
            have hat := mixAdd_at (p := p) (s := s) (y := y) (j := j) (by rw [HML.out, HYL.out]) (by rw [HML.out]; exact hlj)
            have hst := blend_set (a := mixAdd p s y) (b := s) (j := j) hal (by rw [hal, HML.out]; exact hlj)
            rw [hat] at hst
            have e1 := rowc_cell HBj.out (i := j) (by rw [blend_length hal (by rw [hal, HML.out]; omega), HML.out]; exact hlj)
            rw [blend_at hal (by rw [HML.out]; exact hlj)] at e1
            have e2 := HBj.out.frozen j
            obtain ⟨by', oy, rfl, e3⟩ := rdi_cell (show RdI wr wr.heap.size .i64 (.slice A6 n c6) y from Rd.of_own HOj.out) (j := j) (by rw [HYL.out]; exact hlj)
            obtain ⟨bs', os', hbs, e5⟩ := (rdi_cell (HSL.out.upd HUj.out (fun k hk => by omega)) (j := i) (by rw [HLP.out]; exact hlt))
            obtain ⟨rfl, rfl⟩ : bs = bs' ∧ os = os' := by injection hbs with h; injection h with h1 h2; exact ⟨h1, h2⟩
            rw [HPP.out] at e5
            clear hbs
            have hA := hid_ (fun w => quiet_eq (radd_any w (HMW.out j) (wmul_i64 p (y.getD j 0))))
            have HST := hid_ hst
            clear hst hat hal
            generalize y.getD j 0 = yj at *
            generalize s.getD j 0 = sj at *
            have hwm : IntKind.i64.wrap (p * yj) = wmul p yj := rfl
            generalize wmul p yj = m9 at *
            have hst9 := HST.out
            generalize addV sj m9 = r9 at *
            have HST := hid_ hst9
            clear hst9
            go_wp2_with fail
            go_still_tail 17, (by kernel_rfl)
            still_call (hA.out _)
            repeat still_step
            refine wpStill_nil ?_
            change wpList _ _ _ _ _ wr.drew
            go_wp2_with fail
            go_roundw
            case rel => exact ⟨j + 1, by omega, by go_num, hid_ (by rw [← HST.out]; exact rowc_set ((HBj.out).upd ((Upd.refl (fun _ => False) wr).drew) (fun h => h)) j _), hid_ ((HUj.out.drew).setCell (p := ⟨g, j, none⟩) (.inl rfl) _), hid_ (own_upd HOj.out (((Upd.refl (fun k => k = g) wr).drew).setCell (p := ⟨g, j, none⟩) (.inl rfl) _) (fun k h1 h2 _ => by subst h1; omega))⟩
            case measure => simp [intOf]; omega
          · obtain rfl : j = n := by omega
            have hB := HBj.out
            have hal : (mixAdd p s y).length = j := by rw [mixAdd_length (by rw [HML.out, HYL.out]), HML.out]
            have hbl := blend_all (a := mixAdd p s y) (b := s) (by rw [hal, HML.out])
            rw [hal] at hbl
            rw [hbl, ← HNX.out] at hB
            have HB9 := hid_ hB
            clear hB hbl hal
            go_wp2_with fail
            go_roundw
            case rel => exact ⟨i + 1, by omega, by go_num, hid_ (fun k hk => (Nat.lt_succ_iff_lt_or_eq.1 hk).elim (HALL.out k) (fun h => by subst h; rw [HOZ.out]; rfl)), HB9, HUj⟩
            case measure => simp [intOf]; omega
    · obtain rfl : i = q := by omega
      have hml := mixTo_length (sh := sh) i HALL.out
      have hmw := mixTo_low (sh := sh) i HALL.out
      rw [HXL.out] at hml
      generalize mixTo U D hidden xs ch sh i = l at *
      have HML := hid_ hml
      have HMW := hid_ hmw
      clear hml hmw hlt
      go_wp2_with fail
      obtain ⟨wo, rfl⟩ : ∃ wo : World, wo = wr := ⟨_, rfl⟩
      go_loopw [22] (fun jv wr => ∃ j : Nat, j ≤ n ∧ jv = .int .i64 j ∧ Hid (Blk wr g 2 (rowc (mapTo finV l j))) ∧ Hid (Upd (fun k => k = g) WL wr)) (fun jv _ => n - (intOf jv).toNat)
      case atStart => exact ⟨0, Nat.zero_le _, rfl, by rw [mapTo_zero]; exact HB, HU⟩
      case round =>
        obtain ⟨j, hj, rfl, HBj, HUj⟩ := hrel
        by_cases hlj : j < n
        · have hlj' : (j : Int) < (n : Int) := by omega
          have hje : j < l.length := by rw [HML.out]; exact hlj
          have hms := mapTo_set finV l hje
          have c2 := rowc_cell HBj.out (i := j) (by rw [mapTo_length]; exact hje)
          have hat : (mapTo finV l j).getD j 0 = l.getD j 0 := by
            rw [List.getD_eq_getElem?_getD, List.getD_eq_getElem?_getD, mapTo_at _ _ hje]
          rw [hat] at c2
          have f2 := HBj.out.frozen j
          have HMS := hid_ hms
          have hS := hid_ (fun w => rshift_any w 16 (by omega) (HMW.out j))
          have hfin : finV (l.getD j 0) = clampV (shiftV (l.getD j 0) 16) := rfl
          have HFN := hid_ hfin
          clear hat hms hje hfin
          generalize l.getD j 0 = x at *
          generalize shiftV x 16 = x2 at *
          go_wp2_with (first
            | ((go_at_call 54); (refine (hS.out _).mono ?_); (rintro e w1 ⟨rfl, rfl⟩))
            | ((go_at_call 53); (refine (rclamp_any _ _).mono ?_); (rintro e w1 ⟨rfl, rfl⟩)))
          rw [← HFN.out]
          go_roundw
          case rel => exact ⟨j + 1, by omega, by go_num, hid_ (by rw [← HMS.out]; exact rowc_set HBj.out j _), hid_ (HUj.out.setCell (p := ⟨g, j, none⟩) (.inl rfl) _)⟩
          case measure => simp [intOf]; omega
        · obtain rfl : j = n := by omega
          have hB := HBj.out
          rw [← HML.out, mapTo_all] at hB
          have HB9 := hid_ hB
          have HW9 : Hid (Upd (fun _ => False) w wr) := (HUW.out).step HUj.out (fun j h1 _ => by subst h1; exact .inr hs0)
          clear hB
          go_wp2_with fail
          go_ret2
          rw [MixRun, if_pos HALL.out]
          have hl9 : (l.map finV).length = j := by rw [List.length_map, HML.out]
          refine ⟨some ⟨g, 0, none⟩, j, by rw [hl9]; rfl, ?_, HW9.out.toB⟩
          rw [hl9]
          exact own_rowc HB9.out hs0 hl9 (by unfold maxLen; omega)

theorem rmix_any {w : World} {B B' B1 B2 : Nat} {A0 A1 A2 A3 : Option Addr} {L0 c0 u c1 d c2 n c3 : Nat} {router xs : List Int} {U D : List (List Int)} {hidden k : Int} (hr : RdI w B .i8 (.slice A0 L0 c0) router) (hx : RdI w B' .i64 (.slice A3 n c3) xs) (hw : Wt router) (hbig : L0 ≤ 4294967296)
    (hu : RdR w B1 (.slice A1 u c1) U) (hd : RdR w B2 (.slice A2 d c2) D) (hwu : WtR U) (hwd : WtR D) :
    Calls Try.prog 26 #[.slice A0 L0 c0, .slice A1 u c1, .slice A2 d c2, .int .i64 hidden, .int .i64 k, .slice A3 n c3] w (MixPost w (mixE router U D hidden k xs) (mixL router U D hidden k xs)) := by
  have ul := (rdr_len hu).1
  have dl := (rdr_len hd).1
  by_cases h1 : u = 0 ∨ u ≠ d
  · refine (rmix_no1 h1).mono ?_
    intro e w' h
    have hE : mixE router U D hidden k xs = 21 := by rw [mixE, if_pos (by rw [ul, dl]; exact h1)]
    rw [MixPost, hE, if_neg (by decide)]
    exact h
  · obtain rfl : u = d := by omega
    have h1' : ¬ (U.length = 0 ∨ U.length ≠ D.length) := by rw [ul, dl]; exact h1
    by_cases h2 : u = 1
    · subst h2
      refine (rmix_one hu hd hx hwu hwd).mono ?_
      intro e w' h
      rw [MixPost, mixE, if_neg h1', if_pos ul, mixL, if_pos ul]
      cases ho : mixOne U D hidden xs 0 with
      | none =>
        rw [ho] at h
        exact h
      | some y =>
        rw [ho] at h
        exact h
    · have h2' : ¬ U.length = 1 := by rw [ul]; exact h2
      by_cases h3 : routeE router xs u k = 0
      · refine (rmix_run (by omega) h3 hr hx hw hbig hu hd hwu hwd).mono ?_
        intro e w' h
        have h3' : ¬ routeE router xs U.length k ≠ 0 := by rw [ul]; exact fun h => h h3
        rw [MixPost, mixE, if_neg h1', if_neg h2', if_neg h3', mixL, if_neg h2', ul]
        unfold MixRun at h
        by_cases h4 : mixAll U D hidden xs (routeC router xs u k) k.toNat
        · rw [if_pos h4] at h ⊢
          exact h
        · rw [if_neg h4] at h ⊢
          exact h
      · refine (rmix_no2 (by omega) rfl h3 hr hx hw hbig).mono ?_
        intro e w' h
        have h3' : routeE router xs U.length k ≠ 0 := by rw [ul]; exact h3
        rw [MixPost, mixE, if_neg h1', if_neg h2', if_pos h3', ul, if_neg h3]
        exact h
end Go.Proofs.Ytlpeijaeiioimaa
