/- A beam's final score and the best of beams, walked: the program's, and the document's. Conditions: the beams are read in a slice. -/
import Derived.Test.YtfinbkpmkgpffaaBeamW
import Derived.Deep.RegionHeld3
namespace Go.Proofs.Ytfinbkpmkgpffaa
open Go.RowKit

def lenV (n : Nat) : Nat := min n 1000
theorem finalV_eq (b : Bm) (p : Int) : finalV b p = divV b.score (65536 + 4096 * clampP p * ((lenV b.tokens.length : Nat) : Int)) := by
  unfold finalV lenV
  rfl
theorem prod_bd {p : Int} {n : Nat} (h0 : 0 ≤ p) (h1 : p ≤ 64) (h2 : n ≤ 1000) : 0 ≤ 4096 * p * (n : Int) ∧ 4096 * p * (n : Int) ≤ 262144000 := by
  have a : 0 ≤ p * (n : Int) := Int.mul_nonneg h0 (by omega)
  have b : p * (n : Int) ≤ 64 * 1000 := Int.mul_le_mul h1 (by omega) (by omega) (by omega)
  rw [Int.mul_assoc]
  omega
theorem wrap65 {x : Int} (h0 : 0 ≤ x) (h1 : x ≤ 262144000) : wrap64 (65536 + wrap64 x) = 65536 + x := by
  have e : wrap64 x = x := by unfold wrap64; omega
  rw [e]
  unfold wrap64
  omega
theorem ret_i64 {a b : Int} (h : a = b) : Ending.returned (.int .i64 a) = .returned (.int .i64 b) := by rw [h]
set_option maxHeartbeats 3200000 in
theorem final_any (w : World) (TA : Option Addr) (n tc : Nat) (sc : Int) (dn : Bool) (p : Int) (hn : n ≤ 9223372036854775807) :
    Calls Try.prog 35 #[.agg #[.slice TA n tc, .int .i64 sc, .bool dn], .int .i64 p] w (fun e w' => e = .returned (.int .i64 (divV sc (65536 + 4096 * clampP p * ((lenV n : Nat) : Int)))) ∧ Below w.heap.size w w') := by
  have HB : Hid (Below w.heap.size w (w.alloc (.cells #[.slice TA n tc, .int .i64 sc, .bool dn] 55))) := ((Upd.refl (fun _ => False) w).alloc _).toB
  have HE : Hid (∀ E : Int, E = 65536 + 4096 * clampP p * ((lenV n : Nat) : Int) → divV sc E = divV sc (65536 + 4096 * clampP p * ((lenV n : Nat) : Int))) := fun E h => by rw [h]
  obtain ⟨D, hD⟩ : ∃ D, divV sc (65536 + 4096 * clampP p * ((lenV n : Nat) : Int)) = D := ⟨_, rfl⟩
  rw [hD] at HE ⊢
  clear hD
  rcases (by unfold lenV; omega : (n < 1000 ∧ lenV n = n) ∨ (n = 1000 ∧ lenV n = 1000) ∨ (1000 < n ∧ lenV n = 1000)) with ⟨hl, hL⟩ | ⟨hl, hL⟩ | ⟨hl, hL⟩
  all_goals
    rcases (by unfold clampP; omega : (p < 0 ∧ clampP p = 0) ∨ (p = 0 ∧ clampP p = 0) ∨ ((0 < p ∧ p < 64) ∧ clampP p = p) ∨ (p = 64 ∧ clampP p = 64) ∨ (64 < p ∧ clampP p = 64)) with ⟨hp, hP⟩ | ⟨hp, hP⟩ | ⟨⟨hp, hp2⟩, hP⟩ | ⟨hp, hP⟩ | ⟨hp, hP⟩
  all_goals
    have HP := hid_ hP
    have HL := hid_ hL
    rw [hP, hL] at HE
    clear hP hL
    (try subst hl)
    (try subst hp)
    go_enter Try.func35, Try.ntmps35
    go_wp2_with fail
    refine (div_any _ _ _).mono ?_
    rintro e w1 ⟨rfl, rfl⟩
    go_wp2_with fail
    go_ret
    refine ⟨ret_i64 (HE.out _ ?_), HB.out⟩
    first
      | omega
      | exact wrap65 (prod_bd (by omega) (by omega) (by omega)).1 (prod_bd (by omega) (by omega) (by omega)).2
      | exact wrap65 (prod_bd (n := 1000) (by omega) (by omega) (by omega)).1 (prod_bd (n := 1000) (by omega) (by omega) (by omega)).2
set_option maxHeartbeats 3200000 in
theorem rfinal_any (w : World) (TA : Option Addr) (n tc : Nat) (sc : Int) (dn : Bool) (p : Int) (hn : n ≤ 9223372036854775807) :
    Calls Try.prog 36 #[.agg #[.slice TA n tc, .int .i64 sc, .bool dn], .int .i64 p] w (fun e w' => e = .returned (.int .i64 (divV sc (65536 + 4096 * clampP p * ((lenV n : Nat) : Int)))) ∧ Below w.heap.size w w') := by
  have HB : Hid (Below w.heap.size w (w.alloc (.cells #[.slice TA n tc, .int .i64 sc, .bool dn] 57))) := ((Upd.refl (fun _ => False) w).alloc _).toB
  have HE : Hid (∀ E : Int, E = 65536 + 4096 * clampP p * ((lenV n : Nat) : Int) → divV sc E = divV sc (65536 + 4096 * clampP p * ((lenV n : Nat) : Int))) := fun E h => by rw [h]
  obtain ⟨D, hD⟩ : ∃ D, divV sc (65536 + 4096 * clampP p * ((lenV n : Nat) : Int)) = D := ⟨_, rfl⟩
  rw [hD] at HE ⊢
  clear hD
  rcases (by unfold lenV; omega : (n < 1000 ∧ lenV n = n) ∨ (n = 1000 ∧ lenV n = 1000) ∨ (1000 < n ∧ lenV n = 1000)) with ⟨hl, hL⟩ | ⟨hl, hL⟩ | ⟨hl, hL⟩
  all_goals
    rcases (by unfold clampP; omega : (p < 0 ∧ clampP p = 0) ∨ (p = 0 ∧ clampP p = 0) ∨ ((0 < p ∧ p < 64) ∧ clampP p = p) ∨ (p = 64 ∧ clampP p = 64) ∨ (64 < p ∧ clampP p = 64)) with ⟨hp, hP⟩ | ⟨hp, hP⟩ | ⟨⟨hp, hp2⟩, hP⟩ | ⟨hp, hP⟩ | ⟨hp, hP⟩
  all_goals
    have HP := hid_ hP
    have HL := hid_ hL
    rw [hP, hL] at HE
    clear hP hL
    (try subst hl)
    (try subst hp)
    go_enter Try.func36, Try.ntmps36
    go_wp2_with fail
    refine (rdiv_any _ _ _).mono ?_
    rintro e w1 ⟨rfl, rfl⟩
    go_wp2_with fail
    go_ret
    refine ⟨ret_i64 (HE.out _ ?_), HB.out⟩
    first
      | omega
      | exact wrap65 (prod_bd (by omega) (by omega) (by omega)).1 (prod_bd (by omega) (by omega) (by omega)).2
      | exact wrap65 (prod_bd (n := 1000) (by omega) (by omega) (by omega)).1 (prod_bd (n := 1000) (by omega) (by omega) (by omega)).2
/-- the loops' relation of the best -/
theorem finalsV_get {L : List Bm} {p : Int} {k : Nat} {b : Bm} (h : L[k]? = some b) : (finalsV L p).getD k 0 = finalV b p := by
  unfold finalsV
  rw [List.getD_eq_getElem?_getD, List.getElem?_map, h]
  rfl
theorem finalsV_length (L : List Bm) (p : Int) : (finalsV L p).length = L.length := by simp [finalsV]
theorem maxIs_first (xs : List Int) {k : Nat} (hk : k = 0) : MaxIs xs (k + 1) (k : Int) := by
  subst hk
  refine .inr ⟨0, rfl, by omega, fun j hj => ?_, fun j hj => absurd hj (by omega)⟩
  obtain rfl : j = 0 := by omega
  exact Int.le_refl _
theorem maxIs_up {xs : List Int} {k m : Nat} (h : MaxIs xs k (m : Int)) (hm : m < k) (hlt : xs.getD m 0 < xs.getD k 0) : MaxIs xs (k + 1) (k : Int) := by
  rcases h with ⟨h1, _⟩ | ⟨m', h1, h2, h3, h4⟩
  · omega
  · obtain rfl : m = m' := by omega
    refine .inr ⟨k, rfl, by omega, fun j hj => ?_, fun j hj => ?_⟩
    · rcases Nat.lt_or_ge j k with h5 | h5
      · have := h3 j h5; omega
      · obtain rfl : j = k := by omega
        exact Int.le_refl _
    · have := h3 j hj; omega
theorem maxIs_stay {xs : List Int} {k m : Nat} (h : MaxIs xs k (m : Int)) (hm : m < k) (hle : xs.getD k 0 ≤ xs.getD m 0) : MaxIs xs (k + 1) (m : Int) := by
  rcases h with ⟨h1, _⟩ | ⟨m', h1, h2, h3, h4⟩
  · omega
  · obtain rfl : m = m' := by omega
    refine .inr ⟨m, rfl, by omega, fun j hj => ?_, h4⟩
    rcases Nat.lt_or_ge j k with h5 | h5
    · exact h3 j h5
    · obtain rfl : j = k := by omega
      exact hle
theorem maxIs_at {xs : List Int} {k : Nat} {r : Int} (h : MaxIs xs k r) : (k = 0 ∧ r = -1) ∨ ∃ m : Nat, r = m ∧ m < k := by
  rcases h with h | ⟨m, h1, h2, _⟩
  · exact .inl h
  · exact .inr ⟨m, h1, h2⟩
set_option maxHeartbeats 3200000 in
theorem best_any {w : World} {v : Value} {X : List Bx} (hx : RdBms w v X) (hn : X.length < 1000000000000000) (p : Int) :
    Calls Try.prog 37 #[v, .int .i64 p] w (fun e w' => e = .returned (.int .i64 (maxV (finalsV (bms X) p))) ∧ Below w.heap.size w w') := by
  obtain ⟨A, c, rfl, _, _⟩ := rdbms_form hx
  have HX := hid_ hx
  have HML : Hid ((finalsV (bms X) p).length = X.length) := by show _ = _; rw [finalsV_length, bms_length]
  clear hx
  go_enter Try.func37, Try.ntmps37
  go_wp2_with fail
  go_loopw [5, 10] (fun bv iv wr => ∃ (k : Nat) (r : Int), k ≤ X.length ∧ iv = .int .i64 k ∧ bv = .int .i64 r ∧ Hid (MaxIs (finalsV (bms X) p) k r) ∧ Hid (Below w.heap.size w wr)) (fun _ iv _ => X.length - (intOf iv).toNat)
  case atStart => exact ⟨0, -1, Nat.zero_le _, rfl, rfl, hid_ (.inl ⟨rfl, rfl⟩), hid_ (Below.refl _ _)⟩
  case round =>
    obtain ⟨k, r, hk, rfl, rfl, HM, HB⟩ := hrel
    by_cases hlt : k < X.length
    · have hlt' : (k : Int) < (X.length : Int) := by omega
      obtain ⟨x, hx1, hx2, _⟩ := bx_get hlt
      have hat := rdbms_at (rdbms_below HX.out HB.out) hx1
      obtain ⟨b, o, rfl, hb, c0, c1, c2⟩ := hat.ex
      obtain ⟨TA, tc, htx, _, htm, _⟩ := RdI.form hat.tok
      have hfk := finalsV_get (p := p) hx2
      rw [finalV_eq] at hfk
      obtain ⟨tx, ⟨tk, sc, dn⟩⟩ := x
      simp only at c0 c1 c2 htx htm hfk
      subst htx
      clear hat hx2
      have hbk := Blk.new wr 55 #[.slice TA tk.length tc, .int .i64 sc, .bool dn]
      have HU : Hid (Upd (fun _ => False) wr (wr.alloc (.cells #[.slice TA tk.length tc, .int .i64 sc, .bool dn] 55))) := (Upd.refl (fun _ => False) wr).alloc _
      have HBK := hid_ hbk
      clear hbk
      unfold maxLen at htm
      obtain ⟨fk, hfk2⟩ : ∃ fk, divV sc (65536 + 4096 * clampP p * ((lenV tk.length : Nat) : Int)) = fk := ⟨_, rfl⟩
      have HF := fun (W : World) => hid_ (final_any W TA tk.length tc sc dn p htm)
      rw [hfk2] at HF hfk
      have HFK := hid_ hfk
      have htm2 := htm
      clear hfk hfk2
      generalize tk.length = tl at *
      rcases maxIs_at HM.out with ⟨hk0, rfl⟩ | ⟨m, rfl, hmk⟩
      · have HM2 : Hid (MaxIs (finalsV (bms X) p) (k + 1) (k : Int)) := maxIs_first _ hk0
        clear hk0
        have HB2 : ∀ q, Hid (Below w.heap.size w ((wr.alloc (.cells #[.slice TA tl tc, .int .i64 sc, .bool dn] 55)).drewN q)) := fun q => HB.out.trans ((HU.out.drewN q).toBelow HB.out.size (fun _ h => h.elim))
        go_wp2_with fail
        go_quiet (fail)
        go_wp2_with fail
        go_roundw
        case rel => exact ⟨k + 1, k, by omega, by go_num, rfl, HM2, HB2 _⟩
        case measure => simp [intOf]; omega
      · obtain ⟨y, hy1, hy2, _⟩ := bx_get (X := X) (i := m) (by omega)
        have hat := rdbms_at (rdbms_below HX.out HB.out) hy1
        obtain ⟨b2, o2, h5, hb2, e0, e1, e2⟩ := hat.ex
        injection h5 with h5
        injection h5 with h5 h6 _
        subst h5 h6
        obtain ⟨TB, tc2, hty, _, hym, _⟩ := RdI.form hat.tok
        have hfm := finalsV_get (p := p) hy2
        rw [finalV_eq] at hfm
        obtain ⟨ty, ⟨tk2, sc2, dn2⟩⟩ := y
        simp only at e0 e1 e2 hty hym hfm
        subst hty
        unfold maxLen at hym
        clear hat hy2
        obtain ⟨fm, hfm2⟩ : ∃ fm, divV sc2 (65536 + 4096 * clampP p * ((lenV tk2.length : Nat) : Int)) = fm := ⟨_, rfl⟩
        have HG := fun (W : World) => hid_ (final_any W TB tk2.length tc2 sc2 dn2 p hym)
        rw [hfm2] at HG hfm
        have HFM := hid_ hfm
        clear hfm hfm2
        generalize tk2.length = tl2 at *
        have hmn : ¬ (m : Int) < 0 := by omega
        have hml : (m : Int) < (X.length : Int) := by omega
        go_wp2_with fail
        have HU0 := HU
        have d0 : (wr.alloc (.cells #[.slice TA tl tc, .int .i64 sc, .bool dn] 55)).cell? ⟨wr.heap.size, 0, none⟩ = some (.slice TA tl tc) := (HBK.out.cell 0).trans rfl
        have d1 : (wr.alloc (.cells #[.slice TA tl tc, .int .i64 sc, .bool dn] 55)).cell? ⟨wr.heap.size, 1, none⟩ = some (.int .i64 sc) := (HBK.out.cell 1).trans rfl
        have d2 : (wr.alloc (.cells #[.slice TA tl tc, .int .i64 sc, .bool dn] 55)).cell? ⟨wr.heap.size, 2, none⟩ = some (.bool dn) := (HBK.out.cell 2).trans rfl
        have g0 := (HU.out.cell (p := ⟨b, o + m * 3, none⟩) hb2 (fun h => h)).trans e0
        have g1 := (HU.out.cell (p := ⟨b, o + m * 3 + 1, none⟩) hb2 (fun h => h)).trans e1
        have g2 := (HU.out.cell (p := ⟨b, o + m * 3 + 2, none⟩) hb2 (fun h => h)).trans e2
        have hz0 := HBK.out.lt
        have hz2 : b < (wr.alloc (.cells #[.slice TA tl tc, .int .i64 sc, .bool dn] 55)).heap.size := by simp; omega
        clear c0 c1 c2 e0 e1 e2 HBK
        have HGen : Hid (∀ W, Upd (fun _ => False) (wr.alloc (.cells #[.slice TA tl tc, .int .i64 sc, .bool dn] 55)) W → (W.cell? ⟨wr.heap.size, 0, none⟩ = some (.slice TA tl tc) ∧ W.cell? ⟨wr.heap.size, 1, none⟩ = some (.int .i64 sc) ∧ W.cell? ⟨wr.heap.size, 2, none⟩ = some (.bool dn)) ∧ (W.cell? ⟨b, o + m * 3, none⟩ = some (.slice TB tl2 tc2) ∧ W.cell? ⟨b, o + m * 3 + 1, none⟩ = some (.int .i64 sc2) ∧ W.cell? ⟨b, o + m * 3 + 2, none⟩ = some (.bool dn2))) := fun W hu =>
          ⟨⟨(hu.cell (p := ⟨wr.heap.size, 0, none⟩) hz0 (fun h => h)).trans d0, (hu.cell (p := ⟨wr.heap.size, 1, none⟩) hz0 (fun h => h)).trans d1, (hu.cell (p := ⟨wr.heap.size, 2, none⟩) hz0 (fun h => h)).trans d2⟩, (hu.cell (p := ⟨b, o + m * 3, none⟩) hz2 (fun h => h)).trans g0, (hu.cell (p := ⟨b, o + m * 3 + 1, none⟩) hz2 (fun h => h)).trans g1, (hu.cell (p := ⟨b, o + m * 3 + 2, none⟩) hz2 (fun h => h)).trans g2⟩
        go_region_held3 (fun w' => w'.cell? ⟨wr.heap.size, 0, none⟩ = some (.slice TA tl tc) ∧ w'.cell? ⟨wr.heap.size, 1, none⟩ = some (.int .i64 sc) ∧ w'.cell? ⟨wr.heap.size, 2, none⟩ = some (.bool dn) ∧ w'.cell? ⟨b, o + m * 3, none⟩ = some (.slice TB tl2 tc2) ∧ w'.cell? ⟨b, o + m * 3 + 1, none⟩ = some (.int .i64 sc2) ∧ w'.cell? ⟨b, o + m * 3 + 2, none⟩ = some (.bool dn2)) (go_keep) ((first
          | (go_at_call 35; have q1 := HU0.out; refine (HF _).out.mono ?_; rintro e w5 ⟨rfl, hb5⟩; have HU5 := hid_ ((HU.out.drew.below hb5)); obtain ⟨⟨t0, t1, t2⟩, t3, t4, t5⟩ := HGen.out _ (((Upd.refl (fun _ => False) _).drew).below hb5); have HV5 := hid_ (((Upd.refl (fun _ => False) (wr.alloc (.cells #[.slice TA tl tc, .int .i64 sc, .bool dn] 55))).drew).below hb5); clear HU0 q1 hb5)
          | (go_at_call 35; refine (HG _).out.mono ?_; rintro e w6 ⟨rfl, hb6⟩; have HU6 := hid_ (HU5.out.below hb6); obtain ⟨⟨u0, u1, u2⟩, u3, u4, u5⟩ := HGen.out _ (HV5.out.below hb6); clear hb6)))
        have HB6 : Hid (Below w.heap.size w w6) := HB.out.trans (HU6.out.toBelow HB.out.size (fun _ h => h.elim))
        by_cases hlt2 : fm < fk
        · have HM2 : Hid (MaxIs (finalsV (bms X) p) (k + 1) (k : Int)) := maxIs_up HM.out hmk (by rw [HFM.out, HFK.out]; exact hlt2)
          go_wp2_with fail
          go_roundw
          case rel => exact ⟨k + 1, k, by omega, by go_num, rfl, HM2, HB6⟩
          case measure => simp [intOf]; omega
        · have HM2 : Hid (MaxIs (finalsV (bms X) p) (k + 1) (m : Int)) := maxIs_stay HM.out hmk (by rw [HFM.out, HFK.out]; omega)
          go_wp2_with fail
          go_roundw
          case rel => exact ⟨k + 1, m, by omega, by go_num, rfl, HM2, HB6⟩
          case measure => simp [intOf]; omega
    · obtain rfl : k = X.length := by omega
      have HR : Hid (r = maxV (finalsV (bms X) p)) := maxIs_eq (by rw [HML.out]; exact HM.out)
      go_wp2_with fail
      go_ret
      exact ⟨by rw [← HR.out]; rfl, HB.out⟩
end Go.Proofs.Ytfinbkpmkgpffaa
