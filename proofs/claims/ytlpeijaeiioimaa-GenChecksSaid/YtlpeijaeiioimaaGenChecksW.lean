/- GenChecks walked: it returns true. No condition beyond the reading of the arguments. -/
import Derived.Test.YtlpeijaeiioimaaRowsW
import Derived.Test.YtlpeijaeiioimaaLawRow
import Derived.Test.YtlpeijaeiioimaaCaseArgs
import Derived.Deep.CutBlock
namespace Go.Proofs.Ytlpeijaeiioimaa
open Go.RowKit Go.ChangeShapes Go.WideShapes Go.ChangeAt

set_option maxRecDepth 100000 in
set_option maxHeartbeats 6400000 in
theorem genChecks_walk {w : World} {B : Nat} {A : Option Addr} {n c : Nat} {xs : List Int} (hx : RdI w B .i64 (.slice A n c) xs) (hf : Form (.slice A n c)) {d h L V hd e k wd kind len stop seed topk beams pen : Int} {x : Nat} (hxx : x < 18446744073709551616) :
    Calls Try.prog 4 #[.agg #[.int .i64 d, .int .i64 h, .int .i64 L, .int .i64 V, .int .i64 hd, .int .i64 e, .int .i64 k, .int .i64 wd], .agg #[.int .i64 kind, .slice A n c, .int .i64 len, .int .i64 stop, .int .u64 seed, .int .i64 topk, .float .f64 x, .int .i64 beams, .int .i64 pen]] w (TruePost w) := by
  have HB0 : Hid (Below w.heap.size w ((w.alloc (.cells #[.int .i64 d, .int .i64 h, .int .i64 L, .int .i64 V, .int .i64 hd, .int .i64 e, .int .i64 k, .int .i64 wd] 30)).alloc (.cells #[.int .i64 kind, .slice A n c, .int .i64 len, .int .i64 stop, .int .u64 seed, .int .i64 topk, .float .f64 x, .int .i64 beams, .int .i64 pen] 35))) := below_comp (below_alloc0 w _) (below_alloc0 _ _)
  by_cases hn : 1000 < n
  · have g : (1000 : Int) < (n : Int) := by omega
    go_enter Try.func4, Try.ntmps4
    go_wp2_with fail
    go_ret
    exact ⟨rfl, HB0.out⟩
  have g : ¬ (1000 : Int) < (n : Int) := by omega
  have hl := (rdi_len hx).1
  have HX0 := hid_ (rdi_below hx HB0.out)
  have HF := hid_ hf
  have HN : Hid (n ≤ 1000) := by show _ ≤ _; omega
  have HK0 : Hid (CfgAt ((w.alloc (.cells #[.int .i64 d, .int .i64 h, .int .i64 L, .int .i64 V, .int .i64 hd, .int .i64 e, .int .i64 k, .int .i64 wd] 30)).alloc (.cells #[.int .i64 kind, .slice A n c, .int .i64 len, .int .i64 stop, .int .u64 seed, .int .i64 topk, .float .f64 x, .int .i64 beams, .int .i64 pen] 35)) w.heap.size d h L V hd e k wd) := (Blk.new w 30 #[.int .i64 d, .int .i64 h, .int .i64 L, .int .i64 V, .int .i64 hd, .int .i64 e, .int .i64 k, .int .i64 wd]).alloc (.cells #[.int .i64 kind, .slice A n c, .int .i64 len, .int .i64 stop, .int .u64 seed, .int .i64 topk, .float .f64 x, .int .i64 beams, .int .i64 pen] 35)
  have b2 := Blk.new (w.alloc (.cells #[.int .i64 d, .int .i64 h, .int .i64 L, .int .i64 V, .int .i64 hd, .int .i64 e, .int .i64 k, .int .i64 wd] 30)) 35 #[.int .i64 kind, .slice A n c, .int .i64 len, .int .i64 stop, .int .u64 seed, .int .i64 topk, .float .f64 x, .int .i64 beams, .int .i64 pen]
  rw [World.size_alloc] at b2
  have HA0 : Hid (AskAt ((w.alloc (.cells #[.int .i64 d, .int .i64 h, .int .i64 L, .int .i64 V, .int .i64 hd, .int .i64 e, .int .i64 k, .int .i64 wd] 30)).alloc (.cells #[.int .i64 kind, .slice A n c, .int .i64 len, .int .i64 stop, .int .u64 seed, .int .i64 topk, .float .f64 x, .int .i64 beams, .int .i64 pen] 35)) (w.heap.size + 1) kind (.slice A n c) len stop seed topk x beams pen) := b2
  have HXX := hid_ hxx
  have HLEN := hid_ hl
  clear hx hf hn b2 hxx hl
  go_enter Try.func4, Try.ntmps4
  go_upto_region 3 with fail
  obtain ⟨wA, hwA⟩ : ∃ wA, (w.alloc (.cells #[.int .i64 d, .int .i64 h, .int .i64 L, .int .i64 V, .int .i64 hd, .int .i64 e, .int .i64 k, .int .i64 wd] 30)).alloc (.cells #[.int .i64 kind, .slice A n c, .int .i64 len, .int .i64 stop, .int .u64 seed, .int .i64 topk, .float .f64 x, .int .i64 beams, .int .i64 pen] 35) = wA := ⟨_, rfl⟩
  rw [hwA] at HB0 HX0 HK0 HA0 ⊢
  clear hwA
  obtain ⟨r, hr⟩ : ∃ r, checkV (cfgP d h L V hd e k wd) (rightP V kind xs len stop topk (fixE x) beams pen) kind n len = r := ⟨_, rfl⟩
  have HCH : Hid (∀ (w1 : World) (B1 : Nat) (A1 : Option Addr) (c1 : Nat), RdI w1 B1 .i64 (.slice A1 n c1) xs → Calls Try.prog 16 #[.agg #[.int .i64 d, .int .i64 h, .int .i64 L, .int .i64 V, .int .i64 hd, .int .i64 e, .int .i64 k, .int .i64 wd], .agg #[.int .i64 kind, .slice A1 n c1, .int .i64 len, .int .i64 stop, .int .u64 seed, .int .i64 topk, .float .f64 x, .int .i64 beams, .int .i64 pen]] w1 (IntP w1 r)) := fun w1 B1 A1 c1 hrd => by
    have := check_walk (d := d) (h := h) (L := L) (V := V) (hd := hd) (e := e) (k := k) (wd := wd) (kind := kind) (len := len) (stop := stop) (seed := seed) (topk := topk) (beams := beams) (pen := pen) hrd HXX.out
    rw [hr] at this
    exact this
  have HRC : Hid (∀ (w1 : World), Below wA.heap.size wA w1 → Calls Try.prog 18 #[.agg #[.int .i64 d, .int .i64 h, .int .i64 L, .int .i64 V, .int .i64 hd, .int .i64 e, .int .i64 k, .int .i64 wd], .agg #[.int .i64 kind, .slice A n c, .int .i64 len, .int .i64 stop, .int .u64 seed, .int .i64 topk, .float .f64 x, .int .i64 beams, .int .i64 pen]] w1 (IntP w1 r)) := fun w1 hb => by
    have := rcheck_walk (d := d) (h := h) (L := L) (V := V) (hd := hd) (e := e) (k := k) (wd := wd) (kind := kind) (len := len) (stop := stop) (seed := seed) (topk := topk) (beams := beams) (pen := pen) (rdi_below HX0.out hb) HXX.out
    rw [hr] at this
    exact this
  have HOW : Hid (∀ (w1 : World), Below wA.heap.size wA w1 → Calls Try.prog 17 #[.agg #[.int .i64 kind, .slice A n c, .int .i64 len, .int .i64 stop, .int .u64 seed, .int .i64 topk, .float .f64 x, .int .i64 beams, .int .i64 pen]] w1 (OwnPost w1 kind len stop seed topk x beams pen xs)) := fun w1 hb => own_walk (rdi_below HX0.out hb) HF.out HN.out
  clear hr
  obtain ⟨c0, c1, c2, c3, c4, c5, c6, c7⟩ := HK0.out.cells
  obtain ⟨a0, a1, a2, a3, a4, a5, a6, a7, a8⟩ := HA0.out.cells
  have HBD : Hid (Below wA.heap.size wA (wA.drewN 1)) := below_drawn ⟨1, rfl⟩
  go_cut [5] (fun v5 wx => v5 = .int .i64 r ∧ Hid (Below wA.heap.size wA wx))
  case first =>
    go_region_held3 (fun w' => w'.cell? ⟨w.heap.size, 0, none⟩ = some (.int .i64 d) ∧ w'.cell? ⟨w.heap.size, 1, none⟩ = some (.int .i64 h) ∧ w'.cell? ⟨w.heap.size, 2, none⟩ = some (.int .i64 L) ∧ w'.cell? ⟨w.heap.size, 3, none⟩ = some (.int .i64 V) ∧ w'.cell? ⟨w.heap.size, 4, none⟩ = some (.int .i64 hd) ∧ w'.cell? ⟨w.heap.size, 5, none⟩ = some (.int .i64 e) ∧ w'.cell? ⟨w.heap.size, 6, none⟩ = some (.int .i64 k) ∧ w'.cell? ⟨w.heap.size, 7, none⟩ = some (.int .i64 wd) ∧ w'.cell? ⟨w.heap.size + 1, 0, none⟩ = some (.int .i64 kind) ∧ w'.cell? ⟨w.heap.size + 1, 1, none⟩ = some (.slice A n c) ∧ w'.cell? ⟨w.heap.size + 1, 2, none⟩ = some (.int .i64 len) ∧ w'.cell? ⟨w.heap.size + 1, 3, none⟩ = some (.int .i64 stop) ∧ w'.cell? ⟨w.heap.size + 1, 4, none⟩ = some (.int .u64 seed) ∧ w'.cell? ⟨w.heap.size + 1, 5, none⟩ = some (.int .i64 topk) ∧ w'.cell? ⟨w.heap.size + 1, 6, none⟩ = some (.float .f64 x) ∧ w'.cell? ⟨w.heap.size + 1, 7, none⟩ = some (.int .i64 beams) ∧ w'.cell? ⟨w.heap.size + 1, 8, none⟩ = some (.int .i64 pen)) (go_keep) ((first
      | (go_at_call 17; refine (HOW.out _ HBD.out).mono ?_; rintro e w1 ⟨A1, c1, rfl, hr1, hb⟩; rw [HLEN.out] at hr1 ⊢; have HB1 := hid_ (below_comp HBD.out hb); have HR1 := hid_ hr1; obtain ⟨k0, k1, k2, k3, k4, k5, k6, k7⟩ := (HK0.out.below HB1.out).cells; obtain ⟨b0, b1, b2, b3, b4, b5, b6, b7, b8⟩ := (HA0.out.below HB1.out).cells; clear hb hr1)
      | (go_at_call 16; refine (HCH.out _ _ _ _ HR1.out).mono ?_; rintro e w2 ⟨rfl, hb⟩; have HB2 := hid_ (below_comp HB1.out hb); obtain ⟨k0, k1, k2, k3, k4, k5, k6, k7⟩ := (HK0.out.below HB2.out).cells; obtain ⟨b0, b1, b2, b3, b4, b5, b6, b7, b8⟩ := (HA0.out.below HB2.out).cells; clear hb)))
    all_goals ((try go_wp2_with fail); go_meet; exact ⟨rfl, HB2.out⟩)
  case rest =>
  obtain ⟨rfl, HB2⟩ := hcut
  clear c0 c1 c2 c3 c4 c5 c6 c7 a0 a1 a2 a3 a4 a5 a6 a7 a8
  obtain ⟨c0, c1, c2, c3, c4, c5, c6, c7⟩ := (HK0.out.below HB2.out).cells
  obtain ⟨a0, a1, a2, a3, a4, a5, a6, a7, a8⟩ := (HA0.out.below HB2.out).cells
  by_cases hr0 : r = 0
  · subst hr0
    obtain ⟨ra, hra⟩ : ∃ ra, rowsN kind n len = ra := ⟨_, rfl⟩
    obtain ⟨rk, hrk⟩ : ∃ rk, rowsK kind beams = rk := ⟨_, rfl⟩
    have HRW : Hid (∀ (w1 : World) (A1 : Option Addr) (c1 : Nat), Calls Try.prog 19 #[.agg #[.int .i64 kind, .slice A1 n c1, .int .i64 len, .int .i64 stop, .int .u64 seed, .int .i64 topk, .float .f64 x, .int .i64 beams, .int .i64 pen]] w1 (fun e w' => e = .returned (.tuple #[.int .i64 ra, .int .i64 rk]) ∧ Below w1.heap.size w1 w')) := fun w1 A1 c1 => by
      have := rows_walk w1 (A := A1) (n := n) (c := c1) (kind := kind) (len := len) (stop := stop) (seed := seed) (topk := topk) (beams := beams) (pen := pen) (x := x)
      rw [hra, hrk] at this
      exact this
    have HRR : Hid (∀ (w1 : World), Calls Try.prog 20 #[.agg #[.int .i64 kind, .slice A n c, .int .i64 len, .int .i64 stop, .int .u64 seed, .int .i64 topk, .float .f64 x, .int .i64 beams, .int .i64 pen]] w1 (fun e w' => e = .returned (.tuple #[.int .i64 ra, .int .i64 rk]) ∧ Below w1.heap.size w1 w')) := fun w1 => by
      have := rrows_walk w1 (A := A) (n := n) (c := c) (kind := kind) (len := len) (stop := stop) (seed := seed) (topk := topk) (beams := beams) (pen := pen) (x := x)
      rw [hra, hrk] at this
      exact this
    have HCW : Hid (∀ (w1 : World) (A1 : Option Addr) (c1 : Nat), Calls Try.prog 21 #[.agg #[.int .i64 kind, .slice A1 n c1, .int .i64 len, .int .i64 stop, .int .u64 seed, .int .i64 topk, .float .f64 x, .int .i64 beams, .int .i64 pen]] w1 (IntP w1 (wrap64 (ra * rk)))) := fun w1 A1 c1 => by
      have := cost_walk w1 (A := A1) (n := n) (c := c1) (kind := kind) (len := len) (stop := stop) (seed := seed) (topk := topk) (beams := beams) (pen := pen) (x := x)
      rw [hra, hrk] at this
      exact this
    have HCR : Hid (∀ (w1 : World), Calls Try.prog 22 #[.agg #[.int .i64 kind, .slice A n c, .int .i64 len, .int .i64 stop, .int .u64 seed, .int .i64 topk, .float .f64 x, .int .i64 beams, .int .i64 pen]] w1 (IntP w1 (wrap64 (ra * rk)))) := fun w1 => by
      have := rcost_walk w1 (A := A) (n := n) (c := c) (kind := kind) (len := len) (stop := stop) (seed := seed) (topk := topk) (beams := beams) (pen := pen) (x := x)
      rw [hra, hrk] at this
      exact this
    clear hra hrk
    go_upto_region 10 with (first
      | ((go_at_call 18); (refine (HRC.out _ HB2.out).mono ?_); (rintro e w3 ⟨rfl, hb⟩); (have HB3 := hid_ (below_comp HB2.out hb)); (clear c0 c1 c2 c3 c4 c5 c6 c7 a0 a1 a2 a3 a4 a5 a6 a7 a8); (obtain ⟨c0, c1, c2, c3, c4, c5, c6, c7⟩ := (HK0.out.below HB3.out).cells); (obtain ⟨a0, a1, a2, a3, a4, a5, a6, a7, a8⟩ := (HA0.out.below HB3.out).cells); (clear hb HRC))
      | ((go_at_call 17); (refine (HOW.out _ HB3.out).mono ?_); (rintro e w4 ⟨A4, p4, rfl, hr4, hb⟩); (rw [HLEN.out]); (have HB4 := hid_ (below_comp HB3.out hb)); (clear c0 c1 c2 c3 c4 c5 c6 c7 a0 a1 a2 a3 a4 a5 a6 a7 a8); (obtain ⟨a0, a1, a2, a3, a4, a5, a6, a7, a8⟩ := (HA0.out.below HB4.out).cells); (clear hb hr4))
      | ((go_at_call 19); (refine (HRW.out _ _ _).mono ?_); (rintro e w5 ⟨rfl, hb⟩); (have HB5 := hid_ (below_comp HB4.out hb)); (clear a0 a1 a2 a3 a4 a5 a6 a7 a8); (obtain ⟨a0, a1, a2, a3, a4, a5, a6, a7, a8⟩ := (HA0.out.below HB5.out).cells); (clear hb HRW))
      | ((go_at_call 20); (refine (HRR.out _).mono ?_); (rintro e w6 ⟨rfl, hb⟩); (have HB6 := hid_ (below_comp HB5.out hb)); (clear a0 a1 a2 a3 a4 a5 a6 a7 a8); (obtain ⟨a0, a1, a2, a3, a4, a5, a6, a7, a8⟩ := (HA0.out.below HB6.out).cells); (clear hb HRR)))
    generalize wrap64 (ra * rk) = rc at *
    have HBE : Hid (Below wA.heap.size wA (w6.drewN 1)) := below_drewN HB6.out 1
    go_region_held3 (fun w' => w'.cell? ⟨w.heap.size + 1, 0, none⟩ = some (.int .i64 kind) ∧ w'.cell? ⟨w.heap.size + 1, 1, none⟩ = some (.slice A n c) ∧ w'.cell? ⟨w.heap.size + 1, 2, none⟩ = some (.int .i64 len) ∧ w'.cell? ⟨w.heap.size + 1, 3, none⟩ = some (.int .i64 stop) ∧ w'.cell? ⟨w.heap.size + 1, 4, none⟩ = some (.int .u64 seed) ∧ w'.cell? ⟨w.heap.size + 1, 5, none⟩ = some (.int .i64 topk) ∧ w'.cell? ⟨w.heap.size + 1, 6, none⟩ = some (.float .f64 x) ∧ w'.cell? ⟨w.heap.size + 1, 7, none⟩ = some (.int .i64 beams) ∧ w'.cell? ⟨w.heap.size + 1, 8, none⟩ = some (.int .i64 pen)) (go_keep) ((first
      | (go_at_call 17; refine (HOW.out _ HBE.out).mono ?_; rintro e w7 ⟨A7, p7, rfl, hr7, hb⟩; rw [HLEN.out]; have HB7 := hid_ (below_comp HBE.out hb); obtain ⟨b0, b1, b2, b3, b4, b5, b6, b7, b8⟩ := (HA0.out.below HB7.out).cells; clear hb hr7)
      | (go_at_call 21; refine (HCW.out _ _ _).mono ?_; rintro e w8 ⟨rfl, hb⟩; have HB8 := hid_ (below_comp HB7.out hb); obtain ⟨b0, b1, b2, b3, b4, b5, b6, b7, b8⟩ := (HA0.out.below HB8.out).cells; clear hb)
      | (go_at_call 22; refine (HCR.out _).mono ?_; rintro e w9 ⟨rfl, hb⟩; have HB9 := hid_ (below_comp HB8.out hb); obtain ⟨b0, b1, b2, b3, b4, b5, b6, b7, b8⟩ := (HA0.out.below HB9.out).cells; clear hb)))
    all_goals (go_wp2_with fail; go_ret; exact ⟨rfl, below_comp HB0.out HB9.out⟩)
  · have g0 : (r != 0) = true := bne_iff_ne.2 hr0
    go_wp2_with ((go_at_call 18); (refine (HRC.out _ HB2.out).mono ?_); (rintro e w3 ⟨rfl, hb⟩); (have HB3 := hid_ (below_comp HB2.out hb)); (clear hb))
    go_ret
    exact ⟨rfl, below_comp HB0.out HB3.out⟩
end Go.Proofs.Ytlpeijaeiioimaa
