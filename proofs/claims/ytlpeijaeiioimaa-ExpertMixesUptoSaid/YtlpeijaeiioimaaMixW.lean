/- What several networks make of a row together, walked: the program's. Conditions: the slices read as the lists; weights are of 8 bits. -/
import Derived.Test.YtlpeijaeiioimaaMixLaw
import Derived.Test.YtlpeijaeiioimaaHeldPanic
import Derived.StillTailTactics
import Derived.Deep.RegionHeld3
import Derived.RegionTactic
import Derived.Deep.RegionWith
namespace Go.Proofs.Ytlpeijaeiioimaa
open Go.RowKit

set_option maxRecDepth 100000 in
set_option maxHeartbeats 1600000 in
theorem mix_no1 {w : World} {A0 A1 A2 A3 : Option Addr} {L0 c0 u c1 d c2 n c3 : Nat} {hidden k : Int} (h : u = 0 ∨ u ≠ d) :
    Calls Try.prog 24 #[.slice A0 L0 c0, .slice A1 u c1, .slice A2 d c2, .int .i64 hidden, .int .i64 k, .slice A3 n c3] w (RowNo w 21) := by
  have HR := hid_ (Res2.new w (.slice none 0 0) (.int .i64 0))
  have HU := hid_ (res0_upd w)
  unfold res0 at HU
  clear HR HU
  by_cases h0 : u = 0
  · subst h0
    clear h
    go_enter_defers Try.func24, Try.ntmps24
    go_wp2_with fail
    refine leaves_cons (f := 40) (args := #[.pointer (some ⟨w.heap.size, 0, none⟩), .pointer (some ⟨w.heap.size + 1, 0, none⟩)]) (by simp) (by simp [go_sem]) ?_
    refine (caught_idle _ _ _).mono ?_
    rintro e u' w'' ⟨rfl, rfl, rfl⟩
    simp [Leaves, settle, results, Try.results24, go_sem]
    exact ⟨rfl, (((Upd.refl _ w).alloc _).alloc _).toB⟩
  · have hne : ((u : Int) != (d : Int)) = true := by rw [bne_iff_ne]; omega
    have hz : ((u : Int) == 0) = false := by rw [beq_eq_false_iff_ne]; omega
    clear h h0
    go_enter_defers Try.func24, Try.ntmps24
    go_wp2_with fail
    refine leaves_cons (f := 40) (args := #[.pointer (some ⟨w.heap.size, 0, none⟩), .pointer (some ⟨w.heap.size + 1, 0, none⟩)]) (by simp) (by simp [go_sem]) ?_
    refine (caught_idle _ _ _).mono ?_
    rintro e u' w'' ⟨rfl, rfl, rfl⟩
    simp [Leaves, settle, results, Try.results24, go_sem]
    exact ⟨rfl, (((Upd.refl _ w).alloc _).alloc _).toB⟩

set_option maxRecDepth 100000 in
set_option maxHeartbeats 3200000 in
theorem mix_one {w : World} {B1 B2 B3 : Nat} {A0 A1 A2 A3 : Option Addr} {L0 c0 c1 c2 n c3 : Nat} {hidden k : Int} {U D : List (List Int)} {xs : List Int}
    (hu : RdR w B1 (.slice A1 1 c1) U) (hd : RdR w B2 (.slice A2 1 c2) D) (hx : RdI w B3 .i64 (.slice A3 n c3) xs) (hwu : WtR U) (hwd : WtR D) :
    Calls Try.prog 24 #[.slice A0 L0 c0, .slice A1 1 c1, .slice A2 1 c2, .int .i64 hidden, .int .i64 k, .slice A3 n c3] w (RowRes w (mixOne U D hidden xs 0)) := by
  have HR := hid_ (Res2.new w (.slice none 0 0) (.int .i64 0))
  have HU := hid_ (res0_upd w)
  unfold res0 at HU
  have ul := (rdr_len hu).1
  have dl := (rdr_len hd).1
  obtain ⟨b1, o1, E1, m1, e1, B1', rfl, x1, r1⟩ := rdr_cell hu (j := 0) (by omega)
  obtain ⟨b2, o2, E2, m2, e2, B2', rfl, x2, r2⟩ := rdr_cell hd (j := 0) (by omega)
  have hb1 : b1 < w.heap.size := cell_lt x1
  have hb2 : b2 < w.heap.size := cell_lt x2
  have n1 : w.heap.size ≠ b1 := by omega
  have n2 : w.heap.size ≠ b2 := by omega
  have n3 : w.heap.size + 1 ≠ b1 := by omega
  have n4 : w.heap.size + 1 ≠ b2 := by omega
  have x1 := cell_below x1 HU.out.toB
  have x2 := cell_below x2 HU.out.toB
  have HSZ := hid_ (res0_size w)
  unfold res0 at HSZ
  have HO := hid_ (fun m => one_any (hidden := hidden) (rdi_drew (rdi_below r1 HU.out.toB) m) (rdi_drew (rdi_below r2 HU.out.toB) m) (rdi_drew (rdi_below hx HU.out.toB) m) (hwu 0 (by omega)).1 (hwd 0 (by omega)).1 (by rw [← (rdi_len r1).1]; exact (hwu 0 (by omega)).2) (by rw [← (rdi_len r2).1]; exact (hwd 0 (by omega)).2))
  have HE : Hid (mixOne U D hidden xs 0 = oneV (U.getD 0 []) (D.getD 0 []) hidden xs) := rfl
  rw [HE.out]
  generalize oneV (U.getD 0 []) (D.getD 0 []) hidden xs = r at *
  rw [Nat.add_zero] at x1 x2
  clear hu hd hx hwu hwd ul dl r1 r2 HE hb1 hb2
  go_enter_defers Try.func24, Try.ntmps24
  go_wp2_with fail
  generalize ((w.alloc (.cells #[.slice none 0 0] 23)).alloc (.cells #[.int .i64 0] 24)) = W2 at *
  go_region_held3 (fun w' => w'.cell? ⟨b1, o1, none⟩ = some (.slice E1 m1 e1) ∧ w'.cell? ⟨b2, o2, none⟩ = some (.slice E2 m2 e2)) (go_keep) ((first | (go_at_call 13; (refine (HO.out 1).mono ?_); (rintro e w3 h3); (obtain ⟨A, nn, c, x, rfl, hb3, h4⟩ := rowRes_form h3); (have hb3 := below_comp (below_drawn (w := W2) (w' := W2.drewN 1) ⟨1, rfl⟩) hb3); (have k1 := cell_below (w := W2) (w' := w3) x1 hb3); (have k2 := cell_below (w := W2) (w' := w3) x2 hb3); (have hR3 := HR.out.upd (Upd.of_below (w := W2) hb3)); (have g1 := hR3.c1); (have g2 := hR3.c2); (have g3 := hR3.1.frozen 0); (have g4 := hR3.2.frozen 0); (have HR3 := hid_ hR3); (have H4 := hid_ h4); (have HB3 := hid_ hb3); (clear h3 h4 hb3 hR3))))
  go_wp2_with fail
  refine leaves_cons (f := 40) (args := #[.pointer (some ⟨w.heap.size, 0, none⟩), .pointer (some ⟨w.heap.size + 1, 0, none⟩)]) (by simp) (by simp [go_sem]) ?_
  refine (caught_idle _ _ _).mono ?_
  rintro e u' w'' ⟨rfl, rfl, rfl⟩
  have h9 := HR3.out.set (.slice A nn c) (.int .i64 x)
  have h1 := h9.c1
  have h2 := h9.c2
  simp [Leaves, settle, results, Try.results24, go_sem, h1, h2]
  have hz : W2.heap.size = w.heap.size + 2 := HSZ.out
  refine rowRes_move H4.out (show w.heap.size ≤ W2.heap.size by omega) ?_ (set2_upd (HU.out.below (w := W2) HB3.out) _ _).toB
  exact ((Upd.refl _ _).setCell (p := ⟨w.heap.size, 0, none⟩) (.inl (show w.heap.size < W2.heap.size by omega)) _).setCell (p := ⟨w.heap.size + 1, 0, none⟩) (.inl (show w.heap.size + 1 < W2.heap.size by omega)) _

theorem route_no_any {w : World} {B B' : Nat} {A1 A2 : Option Addr} {L1 c1 n c2 : Nat} {router xs : List Int} {m : Nat} {k : Int} {x : Int} (hE : routeE router xs m k = x) (hx0 : x ≠ 0) (hr : RdI w B .i8 (.slice A1 L1 c1) router) (hx : RdI w B' .i64 (.slice A2 n c2) xs) (hw : Wt router) (hbig : L1 ≤ 4294967296) :
    Calls Try.prog 27 #[.slice A1 L1 c1, .int .i64 (m : Int), .int .i64 k, .slice A2 n c2] w (RouteNo w x) := by
  refine (route_any (k := k) (m := m) hr hx hw hbig).mono ?_
  intro e w' h
  unfold RouteAny at h
  rw [hE, if_neg hx0] at h
  exact h
theorem route_ok_any {w : World} {B B' : Nat} {A1 A2 : Option Addr} {L1 c1 n c2 : Nat} {router xs : List Int} {m : Nat} {k : Int} (hE : routeE router xs m k = 0) (hr : RdI w B .i8 (.slice A1 L1 c1) router) (hx : RdI w B' .i64 (.slice A2 n c2) xs) (hw : Wt router) (hbig : L1 ≤ 4294967296) :
    Calls Try.prog 27 #[.slice A1 L1 c1, .int .i64 (m : Int), .int .i64 k, .slice A2 n c2] w (RouteOk w (routeC router xs m k) (routeP router xs m k) k.toNat) := by
  refine (route_any (k := k) (m := m) hr hx hw hbig).mono ?_
  intro e w' h
  unfold RouteAny at h
  rw [hE, if_pos rfl] at h
  exact h

set_option maxRecDepth 100000 in
set_option maxHeartbeats 3200000 in
theorem mix_no2 {w : World} {B B' : Nat} {A0 A1 A2 A3 : Option Addr} {L0 c0 u c1 c2 n c3 : Nat} {router xs : List Int} {hidden k x : Int} (hu : 2 ≤ u) (hE : routeE router xs u k = x) (hx0 : x ≠ 0) (hr : RdI w B .i8 (.slice A0 L0 c0) router) (hx : RdI w B' .i64 (.slice A3 n c3) xs) (hw : Wt router) (hbig : L0 ≤ 4294967296) :
    Calls Try.prog 24 #[.slice A0 L0 c0, .slice A1 u c1, .slice A2 u c2, .int .i64 hidden, .int .i64 k, .slice A3 n c3] w (RowNo w x) := by
  have HR := hid_ (Res2.new w (.slice none 0 0) (.int .i64 0))
  have HU := hid_ (res0_upd w)
  have HM := hid_ (route_no_any hE hx0 (rdi_below hr (res0_upd w).toB) (rdi_below hx (res0_upd w).toB) hw hbig)
  unfold res0 at HU HM
  have HX0 := hid_ hx0
  have hz : ((u : Int) == 0) = false := by rw [beq_eq_false_iff_ne]; omega
  have hz1 : ((u : Int) == 1) = false := by rw [beq_eq_false_iff_ne]; omega
  clear hE hr hx hw hbig hu hx0
  go_enter_defers Try.func24, Try.ntmps24
  go_wp2_with (first
    | ((go_at_call 27); (refine HM.out.mono ?_); (rintro e w3 ⟨rfl, hb⟩); (have hR3 := HR.out.upd (Upd.of_below hb)); (have HU3 := hid_ (HU.out.below hb)); (have g1 := hR3.c1); (have g2 := hR3.c2); (have g3 := hR3.1.frozen 0); (have g4 := hR3.2.frozen 0); (have HR3 := hid_ hR3); (clear hb hR3))
    | ((go_at_call 41); (refine (must_no _ _ _ _ x HX0.out).mono ?_); (rintro e w4 ⟨rfl, rfl⟩)))
  have hq : Res2 w (w3.setCell ⟨w.heap.size + 1, 0, none⟩ (.int .i64 x)) (.slice none 0 0) (.int .i64 x) := ⟨HR3.out.1.far (by simp) _, by simpa using HR3.out.2.set_ 0 (.int .i64 x)⟩
  refine leaves_cons (f := 40) (args := #[.pointer (some ⟨w.heap.size, 0, none⟩), .pointer (some ⟨w.heap.size + 1, 0, none⟩)]) (by simp) (by simp [go_sem]) ?_
  refine (caught_panic w.heap.size (w.heap.size + 1) _ _ x _ hq.c1 (hq.1.frozen 0) hq.c2 (hq.2.frozen 0) (by simp)).mono ?_
  rintro e u' w'' ⟨rfl, rfl, rfl⟩
  have h9 := hq.set (.slice none 0 0) (.int .i64 x)
  have h1 := h9.c1
  have h2 := h9.c2
  simp [Leaves, settle, results, Try.results24, go_sem, h1, h2]
  exact ⟨rfl, (set2_upd (HU3.out.setCell (p := ⟨w.heap.size + 1, 0, none⟩) (.inr (Nat.le_succ _)) _) _ _).toB⟩

def MixRun (w : World) (c : Prop) [Decidable c] (l : List Int) (e : Ending) (w' : World) : Prop := if c then RowOk w l e w' else RowNo w 21 e w'
set_option maxRecDepth 100000 in
set_option maxHeartbeats 6400000 in
set_option linter.unusedSimpArgs false in
theorem mix_run {w : World} {B B' B1 B2 : Nat} {A0 A1 A2 A3 : Option Addr} {L0 c0 u c1 c2 n c3 : Nat} {router xs : List Int} {U D : List (List Int)} {hidden k : Int} (hu2 : 2 ≤ u) (hE : routeE router xs u k = 0) (hr : RdI w B .i8 (.slice A0 L0 c0) router) (hx : RdI w B' .i64 (.slice A3 n c3) xs) (hw : Wt router) (hbig : L0 ≤ 4294967296)
    (hu : RdR w B1 (.slice A1 u c1) U) (hd : RdR w B2 (.slice A2 u c2) D) (hwu : WtR U) (hwd : WtR D) :
    Calls Try.prog 24 #[.slice A0 L0 c0, .slice A1 u c1, .slice A2 u c2, .int .i64 hidden, .int .i64 k, .slice A3 n c3] w
      (MixRun w (mixAll U D hidden xs (routeC router xs u k) k.toNat) ((mixTo U D hidden xs (routeC router xs u k) (routeP router xs u k) k.toNat).map finV)) := by
  have HR := hid_ (Res2.new w (.slice none 0 0) (.int .i64 0))
  have HU := hid_ (res0_upd w)
  have HM := hid_ (route_ok_any hE (rdi_below hr (res0_upd w).toB) (rdi_below hx (res0_upd w).toB) hw hbig)
  have HUU := hid_ hu
  have HDD := hid_ hd
  have HXX := hid_ hx
  have HSZ := hid_ (res0_size w)
  unfold res0 at HU HM HSZ
  have HWU := hid_ hwu
  have HWD := hid_ hwd
  have hz : ((u : Int) == 0) = false := by rw [beq_eq_false_iff_ne]; omega
  have hz1 : ((u : Int) == 1) = false := by rw [beq_eq_false_iff_ne]; omega
  have hrange : ∀ i, i < k.toNat → 0 ≤ (routeC router xs u k).getD i 0 ∧ (routeC router xs u k).getD i 0 < (u : Int) := fun i hi => by
    have hE2 := hE
    unfold routeE at hE2
    split at hE2
    · cases hE2
    · have hml : (matL router xs u).length = u := matL_length _ _ _
      have h1 := chosenV_at (xs := matL router xs u) (k := k) (i := i) (by rw [hml]; unfold clamp; omega)
      rw [hml] at h1
      exact h1
  have hlc : (routeC router xs u k).length = k.toNat := by
    have hE2 := hE
    unfold routeE at hE2
    split at hE2
    · cases hE2
    · unfold routeC
      rw [chosenV_length, matL_length]; unfold clamp; omega
  have hlp : (routeP router xs u k).length = k.toNat := by rw [routeP, softV_length, routeB, bestL_length, hlc]
  have hn32 : n ≤ 4294967296 := by
    have hE2 := hE
    unfold routeE at hE2
    split at hE2
    · cases hE2
    · split at hE2
      · rename_i h9
        unfold MatOk at h9
        rw [(rdi_len hx).1, (rdi_len hr).1, ← Int.natCast_mul] at h9
        have h10 : L0 = u * n := Int.ofNat.inj h9.2.2
        have := Nat.le_mul_of_pos_left n (show 0 < u by omega)
        omega
      · cases hE2
  have hqs : k.toNat ≤ u := by
    have hE2 := hE
    unfold routeE at hE2
    split at hE2
    · cases hE2
    · omega
  obtain ⟨hxl, hnc, hnm⟩ := rdi_len hx
  obtain ⟨hul, huc, hum⟩ := rdr_len hu
  obtain ⟨hdl, hdc, hdm⟩ := rdr_len hd
  have HXL := hid_ hxl
  have HUL := hid_ hul
  have HDL := hid_ hdl
  have HRG := hid_ hrange
  have HLC := hid_ hlc
  have HLP := hid_ hlp
  unfold maxLen at hnm hum
  generalize routeC router xs u k = ch at *
  generalize routeP router xs u k = sh at *
  generalize k.toNat = q at *
  clear hE hr hx hw hbig hu2 hrange hlc hlp hu hd hwu hwd hxl hul hdl hdc hdm
  have hmk := fun w => make_i64s w n hn32
  go_enter_defers Try.func24, Try.ntmps24
  go_wp2_with (first
    | ((go_at_call 27); (refine HM.out.mono ?_); (rintro e w3 ⟨D1, d1, D2, d2, rfl, hc3, hs3, hb, hfc, hfs⟩); (have hR3 := HR.out.upd (Upd.of_below hb)); (have HU3 := hid_ (HU.out.below hb)); (have g1 := hR3.c1); (have g2 := hR3.c2); (have g3 := hR3.1.frozen 0); (have g4 := hR3.2.frozen 0); (have hq : Res2 w (w3.setCell ⟨w.heap.size + 1, 0, none⟩ (.int .i64 0)) (.slice none 0 0) (.int .i64 0) := ⟨hR3.1.far (by simp) _, by simpa using hR3.2.set_ 0 (.int .i64 0)⟩); (have g5 := fun o => (hq.upd ((Upd.refl _ _).alloc o)).c1); (have g6 := fun o => (hq.upd ((Upd.refl _ _).alloc o)).1.frozen 0); (have HQ := hid_ hq); (clear hq); (have HR3 := hid_ hR3); (have HB3 := hid_ hb); (have HC3 := hid_ hc3); (have HS3 := hid_ hs3); (have HFC := hid_ hfc); (have HFS := hid_ hfs); (clear hb hR3 hc3 hs3 hfc hfs))
    | ((go_at_call 41); (refine (must_ok _ _ _ _).mono ?_); (rintro e w4 ⟨rfl, rfl⟩)))
  have hs0 : w.heap.size + 2 ≤ w3.heap.size := by have := HB3.out.size; rw [HSZ.out] at this; exact this
  have hu0 : Upd (fun k => k < ((w.alloc (.cells #[.slice none 0 0] 23)).alloc (.cells #[.int .i64 0] 24)).heap.size) w3 (((w3.setCell ⟨w.heap.size + 1, 0, none⟩ (.int .i64 0)).alloc (.cells (rowc (List.replicate n 0)) 2)).setCell ⟨w.heap.size, 0, none⟩ (.slice (some ⟨w3.heap.size, 0, none⟩) n n)) := by
    rw [HSZ.out]
    exact ((((Upd.refl _ w3).setCell (p := ⟨w.heap.size + 1, 0, none⟩) (.inl (show w.heap.size + 1 < w.heap.size + 2 by omega)) _).alloc _).setCell (p := ⟨w.heap.size, 0, none⟩) (.inl (show w.heap.size < w.heap.size + 2 by omega)) _)
  have HCL := hid_ (rdi_fresh HC3.out HFC.out hu0)
  have HSL := hid_ (rdi_fresh HS3.out HFS.out hu0)
  have HUW : Hid (Upd (fun _ => False) w (((w3.setCell ⟨w.heap.size + 1, 0, none⟩ (.int .i64 0)).alloc (.cells (rowc (List.replicate n 0)) 2)).setCell ⟨w.heap.size, 0, none⟩ (.slice (some ⟨w3.heap.size, 0, none⟩) n n))) :=
    ((((HU3.out).setCell (p := ⟨w.heap.size + 1, 0, none⟩) (.inr (Nat.le_succ _)) _).alloc _).setCell (p := ⟨w.heap.size, 0, none⟩) (.inr (Nat.le_refl _)) _)
  have HBL : Hid (Blk (((w3.setCell ⟨w.heap.size + 1, 0, none⟩ (.int .i64 0)).alloc (.cells (rowc (List.replicate n 0)) 2)).setCell ⟨w.heap.size, 0, none⟩ (.slice (some ⟨w3.heap.size, 0, none⟩) n n)) w3.heap.size 2 (rowc (List.replicate n 0))) := by
    have h1 := Blk.new (w3.setCell ⟨w.heap.size + 1, 0, none⟩ (.int .i64 0)) 2 (rowc (List.replicate n 0))
    rw [World.size_setCell] at h1
    exact h1.far (p := ⟨w.heap.size, 0, none⟩) (show w3.heap.size ≠ w.heap.size by omega) _
  have HRL : Hid (Res2 w (((w3.setCell ⟨w.heap.size + 1, 0, none⟩ (.int .i64 0)).alloc (.cells (rowc (List.replicate n 0)) 2)).setCell ⟨w.heap.size, 0, none⟩ (.slice (some ⟨w3.heap.size, 0, none⟩) n n)) (.slice (some ⟨w3.heap.size, 0, none⟩) n n) (.int .i64 0)) := by
    have h1 := HQ.out.upd ((Upd.refl (fun _ => False) _).alloc (.cells (rowc (List.replicate n 0)) 2))
    exact ⟨by simpa using h1.1.set_ 0 (.slice (some ⟨w3.heap.size, 0, none⟩) n n), h1.2.far (p := ⟨w.heap.size, 0, none⟩) (show w.heap.size + 1 ≠ w.heap.size by omega) _⟩
  generalize (((w3.setCell ⟨w.heap.size + 1, 0, none⟩ (.int .i64 0)).alloc (.cells (rowc (List.replicate n 0)) 2)).setCell ⟨w.heap.size, 0, none⟩ (.slice (some ⟨w3.heap.size, 0, none⟩) n n)) = WL at *
  obtain ⟨g, hg⟩ : ∃ g, w3.heap.size = g := ⟨_, rfl⟩
  rw [hg] at HCL HSL HBL HRL hs0 ⊢
  clear HM HU HU3 HSZ HR HR3 HB3 HC3 HS3 HFC HFS HQ hu0 hmk g1 g2 g3 g4 g5 g6 hg
  have HZ : Hid (mixTo U D hidden xs ch sh 0 = List.replicate n 0) := by show _ = _; rw [mixTo, HXL.out]
  go_loopw [65] (fun iv wr => ∃ i : Nat, i ≤ q ∧ iv = .int .i64 i ∧ Hid (mixAll U D hidden xs ch i) ∧ Hid (Blk wr g 2 (rowc (mixTo U D hidden xs ch sh i))) ∧ Hid (Upd (fun k => k = g) WL wr)) (fun iv _ => q - (intOf iv).toNat)
  case atStart => exact ⟨0, Nat.zero_le _, rfl, hid_ (fun j hj => by omega), hid_ (by rw [HZ.out]; exact HBL.out), hid_ (Upd.refl _ _)⟩
  case round =>
    obtain ⟨i, hi, rfl, HALL, HB, HU⟩ := hrel
    have HWR : Hid (Upd (fun _ => False) w wr) := (HUW.out).step HU.out (fun j h1 _ => by subst h1; exact .inr (by omega))
    have HRR := hid_ (HRL.out.1.upd HU.out (by omega))
    have HRE := hid_ (HRL.out.2.upd HU.out (by omega))
    by_cases hlt : i < q
    · have hlt' : (i : Int) < (q : Int) := by omega
      obtain ⟨b, o, rfl, d1'⟩ := rdi_cell (HCL.out.upd HU.out (fun k hk => by omega)) (j := i) (by rw [HLC.out]; exact hlt)
      obtain ⟨h1, h2⟩ := HRG.out i hlt
      obtain ⟨z, hzz⟩ : ∃ z : Nat, ch.getD i 0 = z := ⟨(ch.getD i 0).toNat, by omega⟩
      have HZZ := hid_ hzz
      rw [hzz] at d1' h1 h2
      obtain ⟨b1, o1, E1, m1, e1, B1', rfl, x1, r1⟩ := rdr_cell (rdr_below HUU.out HWR.out.toB) (j := z) (by rw [HUL.out]; omega)
      obtain ⟨b2, o2, E2, m2, e2, B2', rfl, x2, r2⟩ := rdr_cell (rdr_below HDD.out HWR.out.toB) (j := z) (by rw [HDL.out]; omega)
      have w1 := HWU.out z (by rw [HUL.out]; omega)
      have w2 := HWD.out z (by rw [HDL.out]; omega)
      have HO := hid_ (fun m => one_any (hidden := hidden) (rdi_drew r1 m) (rdi_drew r2 m) (rdi_drew (rdi_below HXX.out HWR.out.toB) m) w1.1 w2.1 (by rw [← (rdi_len r1).1]; exact w1.2) (by rw [← (rdi_len r2).1]; exact w2.2))
      have HOZ : Hid (mixOne U D hidden xs (ch.getD i 0) = oneV (U.getD z []) (D.getD z []) hidden xs) := by show _ = _; rw [hzz]; rfl
      have c63 : wr.cell? ⟨w.heap.size, 0, none⟩ = some (.slice (some ⟨g, 0, none⟩) n n) := HRR.out.cell 0
      clear hzz r1 r2 w1 w2
      cases hone : oneV (U.getD z []) (D.getD z []) hidden xs with
      | none =>
        rw [hone] at HO HOZ
        clear hone
        go_wp2_with fail
        refine region_held_thrown (fun w' => w'.cell? ⟨b1, o1 + z, none⟩ = some (.slice E1 m1 e1) ∧ w'.cell? ⟨b2, o2 + z, none⟩ = some (.slice E2 m2 e2)) (thrown 21) (fun w' => Below wr.heap.size wr w') 12 13 (.pointer (some ⟨w.heap.size, 0, none⟩)) (.pointer (some ⟨w.heap.size + 1, 0, none⟩)) (by kernel_rfl) (by kernel_rfl) ⟨by rfl, by rfl⟩ ?hQ ⟨x1, x2⟩ (fun hHeld => ?hW)
        case hQ =>
          intro a' w' hd hb h12 h13
          rw [Array.getD_eq_getD_getElem?] at h12 h13
          have hR6 : Res2 w w' (.slice (some ⟨g, 0, none⟩) n n) (.int .i64 0) := ⟨HRR.out.upd (Upd.of_below (S := fun _ => False) hb) (fun h => h), HRE.out.upd (Upd.of_below (S := fun _ => False) hb) (fun h => h)⟩
          show Leaves _ _ _ _ _ _ _
          rw [hd]
          refine leaves_cons (f := 40) (args := #[.pointer (some ⟨w.heap.size, 0, none⟩), .pointer (some ⟨w.heap.size + 1, 0, none⟩)]) (by simp) (by simp [go_sem]) ?_
          refine (caught_panic w.heap.size (w.heap.size + 1) _ _ 21 _ hR6.c1 (hR6.1.frozen 0) hR6.c2 (hR6.2.frozen 0) (by simp)).mono ?_
          rintro e u' w'' ⟨rfl, rfl, rfl⟩
          have h9 := hR6.set (.slice none 0 0) (.int .i64 21)
          have h1 := h9.c1
          have h2 := h9.c2
          simp [Leaves, settle, results, Try.results24, go_sem, h1, h2, h12, h13]
          show MixRun w (mixAll U D hidden xs ch q) _ _ _
          rw [MixRun, if_neg (fun h => by have h3 := h i hlt; rw [HOZ.out] at h3; cases h3)]
          exact ⟨rfl, (set2_upd (HWR.out.below hb) _ _).toB⟩
        refine wpAnyH_take (i := 0) (v := ?v0) rfl (by kernel_rfl) (by kernel_rfl) (by kernel_rfl) (fun _ _ _ h => h) (Or.inl ⟨by rfl, ?hy0⟩) (by assumption) ?rest0
        case hy0 => (intro w hSw; (try dsimp only at hSw); go_simp <;> (try with_reducible rfl))
        (try simp only [Act.put, List.setIfInBounds_toArray, List.set_cons_zero, List.set_cons_succ])
        refine wpAnyH_take (i := 1) (v := ?v1) rfl (by kernel_rfl) (by kernel_rfl) (by kernel_rfl) (fun _ _ _ h => h) (Or.inl ⟨by rfl, ?hy1⟩) (by assumption) ?rest1
        case hy1 => (intro w hSw; (try dsimp only at hSw); go_simp <;> (try with_reducible rfl))
        (try simp only [Act.put, List.setIfInBounds_toArray, List.set_cons_zero, List.set_cons_succ])
        refine wpAnyH_take (i := 2) (v := ?v2) rfl (by kernel_rfl) (by kernel_rfl) (by kernel_rfl) (fun _ _ _ h => h) (Or.inl ⟨by rfl, ?hy2⟩) (by assumption) ?rest2
        case hy2 => (intro w hSw; (try dsimp only at hSw); go_simp <;> (try with_reducible rfl))
        (try simp only [Act.put, List.setIfInBounds_toArray, List.set_cons_zero, List.set_cons_succ])
        refine wpAnyH_take (i := 3) (v := ?v3) rfl (by kernel_rfl) (by kernel_rfl) (by kernel_rfl) (fun _ _ _ h => h) (Or.inl ⟨by rfl, ?hy3⟩) (by assumption) ?rest3
        case hy3 => (intro w hSw; (try dsimp only at hSw); go_simp <;> (try with_reducible rfl))
        (try simp only [Act.put, List.setIfInBounds_toArray, List.set_cons_zero, List.set_cons_succ])
        refine wpAnyH_take (i := 4) (v := ?v4) rfl (by kernel_rfl) (by kernel_rfl) (by kernel_rfl) (fun _ _ _ h => h) (Or.inl ⟨by rfl, ?hy4⟩) (by assumption) ?rest4
        case hy4 => (intro w hSw; (try dsimp only at hSw); go_simp <;> (try with_reducible rfl))
        (try simp only [Act.put, List.setIfInBounds_toArray, List.set_cons_zero, List.set_cons_succ])
        refine wpAnyH_take (i := 5) (v := ?v5) rfl (by kernel_rfl) (by kernel_rfl) (by kernel_rfl) (fun _ _ _ h => h) (Or.inl ⟨by rfl, ?hy5⟩) (by assumption) ?rest5
        case hy5 => (intro w hSw; (try dsimp only at hSw); go_simp <;> (try with_reducible rfl))
        (try simp only [Act.put, List.setIfInBounds_toArray, List.set_cons_zero, List.set_cons_succ])
        refine wpAnyH_take (i := 6) (v := ?v6) rfl (by kernel_rfl) (by kernel_rfl) (by kernel_rfl) (fun _ _ _ h => h) (Or.inl ⟨by rfl, ?hy6⟩) (by assumption) ?rest6
        case hy6 => (intro w hSw; (try dsimp only at hSw); go_simp <;> (try with_reducible rfl))
        (try simp only [Act.put, List.setIfInBounds_toArray, List.set_cons_zero, List.set_cons_succ])
        refine wpAnyH_take (i := 7) (v := ?v7) rfl (by kernel_rfl) (by kernel_rfl) (by kernel_rfl) (fun _ _ _ h => h) (Or.inl ⟨by rfl, ?hy7⟩) (by assumption) ?rest7
        case hy7 => (intro w hSw; (try dsimp only at hSw); go_simp <;> (try with_reducible rfl))
        (try simp only [Act.put, List.setIfInBounds_toArray, List.set_cons_zero, List.set_cons_succ])
        refine wpAnyH_take (i := 8) (v := ?v8) rfl (by kernel_rfl) (by kernel_rfl) (by kernel_rfl) (fun _ _ _ h => h) (Or.inl ⟨by rfl, ?hy8⟩) (by assumption) ?rest8
        case hy8 => (intro w hSw; (try dsimp only at hSw); go_simp <;> (try with_reducible rfl))
        (try simp only [Act.put, List.setIfInBounds_toArray, List.set_cons_zero, List.set_cons_succ])
        refine wpAnyH_take (i := 9) (v := ?v9) rfl (by kernel_rfl) (by kernel_rfl) (by kernel_rfl) (fun _ _ _ h => h) (Or.inl ⟨by rfl, ?hy9⟩) (by assumption) ?rest9
        case hy9 => (intro w hSw; (try dsimp only at hSw); go_simp <;> (try with_reducible rfl))
        (try simp only [Act.put, List.setIfInBounds_toArray, List.set_cons_zero, List.set_cons_succ])
        refine wpAnyH_take (i := 15) (v := ?v15) rfl (by kernel_rfl) (by kernel_rfl) (by kernel_rfl) (fun _ _ _ h => h) (Or.inl ⟨by rfl, ?hy15⟩) (by assumption) ?rest15
        case hy15 => (intro w hSw; (try dsimp only at hSw); go_simp <;> (try with_reducible rfl))
        (try simp only [Act.put, List.setIfInBounds_toArray, List.set_cons_zero, List.set_cons_succ])
        refine wpAnyH_ready (rs := [10]) (by kernel_rfl) (by simp) ?_
        refine AllReadyH.cons rfl (fun K hK => ?_) AllReadyH.nil
        go_simp
        go_at_call 13
        refine (HO.out 1).mono ?_
        rintro e w3 ⟨rfl, hb3⟩
        have hb3 := below_comp (below_drawn (w := wr) (w' := wr.drewN 1) ⟨1, rfl⟩) hb3
        have HB6 := hid_ hb3
        refine hK.out _ _ ⟨cell_below (w := wr) (w' := w3) x1 hb3, cell_below (w := wr) (w' := w3) x2 hb3⟩ (fun hHeld2 => ?_)
        clear hK K hb3
        (try simp only [Act.put, List.setIfInBounds_toArray, List.set_cons_zero, List.set_cons_succ])
        refine wpAnyH_take (i := 11) (v := ?v11) rfl (by kernel_rfl) (by kernel_rfl) (by kernel_rfl) (fun _ _ _ h => h) (Or.inl ⟨by rfl, ?hy11⟩) (by assumption) ?rest11
        case hy11 => (intro w hSw; (try dsimp only at hSw); go_simp <;> (try with_reducible rfl))
        (try simp only [Act.put, List.setIfInBounds_toArray, List.set_cons_zero, List.set_cons_succ])
        refine wpAnyH_take (i := 12) (v := ?v12) rfl (by kernel_rfl) (by kernel_rfl) (by kernel_rfl) (fun _ _ _ h => h) (Or.inl ⟨by rfl, ?hy12⟩) (by assumption) ?rest12
        case hy12 => (intro w hSw; (try dsimp only at hSw); go_simp <;> (try with_reducible rfl))
        (try simp only [Act.put, List.setIfInBounds_toArray, List.set_cons_zero, List.set_cons_succ])
        refine wpAnyH_ready (rs := [13]) (by kernel_rfl) (by simp) ?_
        refine AllReadyH.cons rfl (fun K hK => ?_) AllReadyH.nil
        go_simp
        go_at_call 41
        refine (must_no _ _ _ _ 21 (by decide)).mono ?_
        rintro e w4 ⟨rfl, rfl⟩
        exact ⟨rfl, rfl, HB6.out⟩
      | some y =>
        rw [hone] at HO HOZ
        clear hone
        have hyl : y.length = n := by rw [mixOne_length HOZ.out, HXL.out]
        have HYL := hid_ hyl
        clear hyl
        go_wp2_with fail
        go_region_held3 (fun w' => w'.cell? ⟨b1, o1 + z, none⟩ = some (.slice E1 m1 e1) ∧ w'.cell? ⟨b2, o2 + z, none⟩ = some (.slice E2 m2 e2)) (go_keep) ((first | (go_at_call 13; (refine (HO.out 1).mono ?_); (rintro e w3 ⟨A6, c6, rfl, hO6, hb3⟩); (rw [HYL.out] at hO6 ⊢); (have hb3 := below_comp (below_drawn (w := wr) (w' := wr.drewN 1) ⟨1, rfl⟩) hb3); (have k1 := cell_below (w := wr) (w' := w3) x1 hb3); (have k2 := cell_below (w := wr) (w' := w3) x2 hb3); (have HO6 := hid_ hO6); (have HB6 := hid_ hb3); (clear hO6 hb3)) | ((go_at_call 41); (refine (must_ok _ _ _ _).mono ?_); (rintro e w4 ⟨rfl, rfl⟩))))
        go_wp2_with fail
        have HU6 : Hid (Upd (fun k => k = g) WL w3) := HU.out.step (T := fun _ => False) (Upd.of_below HB6.out) (fun _ h => h.elim)
        have HB7 := hid_ (HB.out.upd (Upd.of_below (S := fun _ => False) HB6.out) (fun h => h))
        have hgr : g < wr.heap.size := HB.out.lt
        have hml := mixTo_length (sh := sh) i HALL.out
        have hmw := mixTo_low (sh := sh) i HALL.out
        have hnx : mixTo U D hidden xs ch sh (i + 1) = mixAdd (sh.getD i 0) (mixTo U D hidden xs ch sh i) y := by rw [mixTo, HOZ.out, Option.getD_some]
        rw [HXL.out] at hml
        have hsd := rdi_cell (HSL.out) (j := i) (by rw [HLP.out]; exact hlt)
        obtain ⟨bs, os, rfl, _⟩ := hsd
        generalize mixTo U D hidden xs ch sh i = s at *
        obtain ⟨p, hp⟩ : ∃ p, sh.getD i 0 = p := ⟨_, rfl⟩
        rw [hp] at hnx
        have HPP := hid_ hp
        clear hp
        have HNX := hid_ hnx
        have HML := hid_ hml
        have HMW := hid_ hmw
        clear hnx hml hmw
        obtain ⟨wo, rfl⟩ : ∃ wo : World, wo = wr := ⟨_, rfl⟩
        go_loopw [85] (fun jv wi => ∃ j : Nat, j ≤ n ∧ jv = .int .i64 j ∧ Hid (Blk wi g 2 (rowc (blend (mixAdd p s y) s j))) ∧ Hid (Upd (fun k => k = g) WL wi) ∧ Hid (wi.ownsRow wo.heap.size 2 1 (.slice A6 n c6) n (y.map (Value.int .i64)))) (fun jv _ => n - (intOf jv).toNat)
        case atStart => exact ⟨0, Nat.zero_le _, rfl, hid_ (by rw [blend_zero]; exact HB7.out), HU6, HO6⟩
        case round =>
          obtain ⟨j, hj, rfl, HBj, HUj, HOj⟩ := hrel
          by_cases hlj : j < n
          · have hlj' : (j : Int) < (n : Int) := by omega
            have hal : (mixAdd p s y).length = s.length := mixAdd_length (by rw [HML.out, HYL.out])
            have hat := mixAdd_at (p := p) (s := s) (y := y) (j := j) (by rw [HML.out, HYL.out]) (by rw [HML.out]; exact hlj)
            have hst := blend_set (a := mixAdd p s y) (b := s) (j := j) hal (by rw [hal, HML.out]; exact hlj)
            rw [hat] at hst
            have e1 := rowc_cell HBj.out (i := j) (by rw [blend_length hal (by rw [hal, HML.out]; omega), HML.out]; exact hlj)
            rw [blend_at hal (by rw [HML.out]; exact hlj)] at e1
            have e2 := HBj.out.frozen j
            obtain ⟨by', oy, rfl, e3⟩ := rdi_cell (show RdI wr wr.heap.size .i64 (.slice A6 n c6) y from Rd.of_own HOj.out) (j := j) (by rw [HYL.out]; exact hlj)
            have e4 : wr.cell? ⟨w.heap.size, 0, none⟩ = some (.slice (some ⟨g, 0, none⟩) n n) := (HRL.out.1.upd HUj.out (by omega)).cell 0
            obtain ⟨bs', os', hbs, e5⟩ := (rdi_cell (HSL.out.upd HUj.out (fun k hk => by omega)) (j := i) (by rw [HLP.out]; exact hlt))
            obtain ⟨rfl, rfl⟩ : bs = bs' ∧ os = os' := by injection hbs with h; injection h with h1 h2; exact ⟨h1, h2⟩
            rw [HPP.out] at e5
            clear hbs
            have hA := hid_ (fun w => quiet_eq (add_any w (HMW.out j) (wmul_i64 p (y.getD j 0))))
            have HST := hid_ hst
            clear hst hat hal
            generalize y.getD j 0 = yj at *
            generalize s.getD j 0 = sj at *
            have hwm : IntKind.i64.wrap (p * yj) = wmul p yj := rfl
            generalize wmul p yj = m9 at *
            have hst9 := HST.out
            generalize addV sj m9 = r9 at *
            have HST := hid_ hst9
            clear hst9
            go_wp2_with fail
            go_still_tail 14, (by kernel_rfl)
            still_call (hA.out _)
            repeat still_step
            refine wpStill_nil ?_
            change wpList _ _ _ _ _ wr.drew
            go_wp2_with fail
            go_roundw
            case rel => exact ⟨j + 1, by omega, by go_num, hid_ (by rw [← HST.out]; exact rowc_set ((HBj.out).upd ((Upd.refl (fun _ => False) wr).drew) (fun h => h)) j _), hid_ ((HUj.out.drew).setCell (p := ⟨g, j, none⟩) (.inl rfl) _), hid_ (own_upd HOj.out (((Upd.refl (fun k => k = g) wr).drew).setCell (p := ⟨g, j, none⟩) (.inl rfl) _) (fun k h1 h2 _ => by subst h1; omega))⟩
            case measure => simp [intOf]; omega
          · obtain rfl : j = n := by omega
            have hB := HBj.out
            have hal : (mixAdd p s y).length = j := by rw [mixAdd_length (by rw [HML.out, HYL.out]), HML.out]
            have hbl := blend_all (a := mixAdd p s y) (b := s) (by rw [hal, HML.out])
            rw [hal] at hbl
            rw [hbl, ← HNX.out] at hB
            have HB9 := hid_ hB
            clear hB hbl hal
            go_wp2_with fail
            go_roundw
            case rel => exact ⟨i + 1, by omega, by go_num, hid_ (fun k hk => (Nat.lt_succ_iff_lt_or_eq.1 hk).elim (HALL.out k) (fun h => by subst h; rw [HOZ.out]; rfl)), HB9, HUj⟩
            case measure => simp [intOf]; omega
    · obtain rfl : i = q := by omega
      have hml := mixTo_length (sh := sh) i HALL.out
      have hmw := mixTo_low (sh := sh) i HALL.out
      rw [HXL.out] at hml
      generalize mixTo U D hidden xs ch sh i = l at *
      have HML := hid_ hml
      have HMW := hid_ hmw
      clear hml hmw hlt
      have g1 : wr.cell? ⟨w.heap.size, 0, none⟩ = some (.slice (some ⟨g, 0, none⟩) n n) := HRR.out.cell 0
      go_wp2_with fail
      obtain ⟨wo, rfl⟩ : ∃ wo : World, wo = wr := ⟨_, rfl⟩
      go_loopw [108] (fun jv wr => ∃ j : Nat, j ≤ n ∧ jv = .int .i64 j ∧ Hid (Blk wr g 2 (rowc (mapTo finV l j))) ∧ Hid (Upd (fun k => k = g) WL wr)) (fun jv _ => n - (intOf jv).toNat)
      case atStart => exact ⟨0, Nat.zero_le _, rfl, by rw [mapTo_zero]; exact HB, HU⟩
      case round =>
        obtain ⟨j, hj, rfl, HBj, HUj⟩ := hrel
        have e4 : wr.cell? ⟨w.heap.size, 0, none⟩ = some (.slice (some ⟨g, 0, none⟩) n n) := (HRL.out.1.upd HUj.out (by omega)).cell 0
        clear g1
        by_cases hlj : j < n
        · have hlj' : (j : Int) < (n : Int) := by omega
          have hje : j < l.length := by rw [HML.out]; exact hlj
          have hms := mapTo_set finV l hje
          have c2 := rowc_cell HBj.out (i := j) (by rw [mapTo_length]; exact hje)
          have hat : (mapTo finV l j).getD j 0 = l.getD j 0 := by
            rw [List.getD_eq_getElem?_getD, List.getD_eq_getElem?_getD, mapTo_at _ _ hje]
          rw [hat] at c2
          have f2 := HBj.out.frozen j
          have HMS := hid_ hms
          have hS := hid_ (fun w => quiet_eq (shift_any w 16 (by omega) (HMW.out j)))
          have hfin : finV (l.getD j 0) = clampV (shiftV (l.getD j 0) 16) := rfl
          have HFN := hid_ hfin
          clear hat hms hje hfin
          generalize l.getD j 0 = x at *
          generalize shiftV x 16 = x2 at *
          go_wp2_with fail
          go_still_tail 6, (by kernel_rfl)
          still_call (hS.out _)
          repeat still_step
          still_call (quiet_eq (clamp_any _ _))
          repeat still_step
          refine wpStill_nil ?_
          change wpList _ _ _ _ _ wr.drew
          rw [← HFN.out]
          go_wp2_with fail
          go_roundw
          case rel => exact ⟨j + 1, by omega, by go_num, hid_ (by rw [← HMS.out]; exact rowc_set ((HBj.out).upd ((Upd.refl (fun _ => False) wr).drew) (fun h => h)) j _), hid_ ((HUj.out.drew).setCell (p := ⟨g, j, none⟩) (.inl rfl) _)⟩
          case measure => simp [intOf]; omega
        · obtain rfl : j = n := by omega
          have hB := HBj.out
          rw [← HML.out, mapTo_all] at hB
          have HB9 := hid_ hB
          have hR : Res2 w wr (.slice (some ⟨g, 0, none⟩) j j) (.int .i64 0) := ⟨HRL.out.1.upd HUj.out (by omega), HRL.out.2.upd HUj.out (by omega)⟩
          have HR9 := hid_ hR
          have k2 := hR.c2
          have k3 := hR.1.frozen 0
          have k4 := hR.2.frozen 0
          have HW9 : Hid (Upd (fun _ => False) w wr) := (HUW.out).step HUj.out (fun j h1 _ => by subst h1; exact .inr (by omega))
          clear hR hB
          go_wp2_with fail
          refine leaves_cons (f := 40) (args := #[.pointer (some ⟨w.heap.size, 0, none⟩), .pointer (some ⟨w.heap.size + 1, 0, none⟩)]) (by simp) (by simp [go_sem]) ?_
          refine (caught_idle _ _ _).mono ?_
          rintro e u' w'' ⟨rfl, rfl, rfl⟩
          have h9 := HR9.out.set (.slice (some ⟨g, 0, none⟩) j j) (.int .i64 0)
          have h1 := h9.c1
          have h2 := h9.c2
          simp [Leaves, settle, results, Try.results24, go_sem, h1, h2]
          show MixRun w _ _ _ _
          rw [MixRun, if_pos HALL.out]
          have hl9 : (l.map finV).length = j := by rw [List.length_map, HML.out]
          refine ⟨some ⟨g, 0, none⟩, j, by rw [hl9], ?_, (set2_upd HW9.out _ _).toB⟩
          rw [hl9]
          exact own_rowc ((HB9.out.far (p := ⟨w.heap.size, 0, none⟩) (show g ≠ w.heap.size by omega) _).far (p := ⟨w.heap.size + 1, 0, none⟩) (show g ≠ w.heap.size + 1 by omega) _) (by omega) hl9 (by unfold maxLen; omega)

theorem mix_any {w : World} {B B' B1 B2 : Nat} {A0 A1 A2 A3 : Option Addr} {L0 c0 u c1 d c2 n c3 : Nat} {router xs : List Int} {U D : List (List Int)} {hidden k : Int} (hr : RdI w B .i8 (.slice A0 L0 c0) router) (hx : RdI w B' .i64 (.slice A3 n c3) xs) (hw : Wt router) (hbig : L0 ≤ 4294967296)
    (hu : RdR w B1 (.slice A1 u c1) U) (hd : RdR w B2 (.slice A2 d c2) D) (hwu : WtR U) (hwd : WtR D) :
    Calls Try.prog 24 #[.slice A0 L0 c0, .slice A1 u c1, .slice A2 d c2, .int .i64 hidden, .int .i64 k, .slice A3 n c3] w (MixPost w (mixE router U D hidden k xs) (mixL router U D hidden k xs)) := by
  have ul := (rdr_len hu).1
  have dl := (rdr_len hd).1
  by_cases h1 : u = 0 ∨ u ≠ d
  · refine (mix_no1 h1).mono ?_
    intro e w' h
    have hE : mixE router U D hidden k xs = 21 := by rw [mixE, if_pos (by rw [ul, dl]; exact h1)]
    rw [MixPost, hE, if_neg (by decide)]
    exact h
  · obtain rfl : u = d := by omega
    have h1' : ¬ (U.length = 0 ∨ U.length ≠ D.length) := by rw [ul, dl]; exact h1
    by_cases h2 : u = 1
    · subst h2
      refine (mix_one hu hd hx hwu hwd).mono ?_
      intro e w' h
      rw [MixPost, mixE, if_neg h1', if_pos ul, mixL, if_pos ul]
      cases ho : mixOne U D hidden xs 0 with
      | none =>
        rw [ho] at h
        exact h
      | some y =>
        rw [ho] at h
        exact h
    · have h2' : ¬ U.length = 1 := by rw [ul]; exact h2
      by_cases h3 : routeE router xs u k = 0
      · refine (mix_run (by omega) h3 hr hx hw hbig hu hd hwu hwd).mono ?_
        intro e w' h
        have h3' : ¬ routeE router xs U.length k ≠ 0 := by rw [ul]; exact fun h => h h3
        rw [MixPost, mixE, if_neg h1', if_neg h2', if_neg h3', mixL, if_neg h2', ul]
        unfold MixRun at h
        by_cases h4 : mixAll U D hidden xs (routeC router xs u k) k.toNat
        · rw [if_pos h4] at h ⊢
          exact h
        · rw [if_neg h4] at h ⊢
          exact h
      · refine (mix_no2 (by omega) rfl h3 hr hx hw hbig).mono ?_
        intro e w' h
        have h3' : routeE router xs U.length k ≠ 0 := by rw [ul]; exact h3
        rw [MixPost, mixE, if_neg h1', if_neg h2', if_pos h3', ul, if_neg h3]
        exact h
end Go.Proofs.Ytlpeijaeiioimaa
