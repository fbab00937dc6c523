/- The statement's own walk: the best ones of a lesser width are the first of a greater width. Conditions: the case is read in an argument. -/
import Derived.Test.YtfinbkpmkgpffaaWorks19
import Derived.Test.YtfinbkpmkgpffaaBeamGreat
import Derived.Test.YtfinbkpmkgpffaaWideLaw
namespace Go.Proofs.Ytfinbkpmkgpffaa
open Go.RowKit

theorem rdi_takeB {w : World} {B : Nat} {k : IntKind} {A : Option Addr} {n c p : Nat} {l : List Int} (h : RdI w B k (.slice A n c) l) (hp : p ≤ n) : RdI w B k (.slice A p c) (l.take p) := by
  obtain ⟨A', c', hv, hc, hm, hx⟩ := h
  injection hv with h1 h2 h3
  subst h1 h3
  have hl : ((l.take p).map (Value.int k)).length = p := by simp at h2 ⊢; omega
  refine ⟨A, c, by rw [hl], by rw [hl]; omega, by rw [hl]; omega, fun h0 => ?_⟩
  rw [hl] at h0
  obtain ⟨b, o, ha, hb, hbs, hcell⟩ := hx (by omega)
  refine ⟨b, o, ha, hb, hbs, fun j u hj => hcell j u ?_⟩
  have hj' : j < p := by
    rcases Nat.lt_or_ge j p with h1 | h1
    · exact h1
    · rw [List.getElem?_eq_none (by rw [hl]; exact h1)] at hj; cases hj
  rw [← hj, List.getElem?_map, List.getElem?_map, List.getElem?_take, if_pos hj']
theorem rdbms_take {w : World} {A : Option Addr} {n c p : Nat} {X : List Bx} (h : RdBms w (.slice A n c) X) (hp : p ≤ n) : RdBms w (.slice A p c) (X.take p) := by
  obtain ⟨A', c', h1, h2, h3, h4⟩ := h
  injection h1 with e1 e2 e3
  subst e1 e2 e3
  have hl : (X.take p).length = p := by rw [List.length_take]; omega
  refine ⟨A, c, by rw [hl], by omega, by omega, fun i x hx => h4 i x ?_⟩
  rw [List.getElem?_take] at hx
  split at hx
  · exact hx
  · cases hx
set_option maxRecDepth 100000 in
set_option maxHeartbeats 4000000 in
theorem beamWide_any {w : World} {k : CaseB} (hk : k.Ok w) : Calls Try.prog 10 #[.agg k.vals.toArray] w (TruePost w) := by
  have HK := hid_ hk
  obtain ⟨hl, hs, hnx, hnr, htk, hrl⟩ := hk
  obtain ⟨lv, X, sv, R, width, length, stop, penalty⟩ := k
  obtain ⟨k, hkk⟩ : ∃ k : CaseB, k = ⟨lv, X, sv, R, width, length, stop, penalty⟩ := ⟨_, rfl⟩
  have HAB : Hid (∀ W', Below (w.alloc (.cells #[lv, sv, .int .i64 width, .int .i64 length, .int .i64 stop, .int .i64 penalty] 43)).heap.size (w.alloc (.cells #[lv, sv, .int .i64 width, .int .i64 length, .int .i64 stop, .int .i64 penalty] 43)) W' → Aft w ⟨lv, X, sv, R, width, length, stop, penalty⟩ W') := fun W' h => ⟨h⟩
  rw [← hkk] at HK HAB
  have HAN : Hid (∀ W W', Aft w k W → Below W.heap.size W W' → Aft w k W') := fun W W' h hb => h.next hb
  have HD : Hid (∀ W, Aft w k W → CaseD w ⟨lv, X, sv, R, width, length, stop, penalty⟩ W) := fun W h => hkk ▸ h.d
  have HG : Hid (∀ W, Aft w k W → Calls Try.prog 29 #[.agg #[lv, sv, .int .i64 width, .int .i64 length, .int .i64 stop, .int .i64 penalty]] W (fun e w' => e = .returned (.bool (decide (200 ≤ X.length + ((bms X).map (fun b => b.tokens.length)).sum + (R.map List.length).sum))) ∧ Below W.heap.size W w')) := fun W h => by
    have h1 := greatx_any (HK.out.below h.b)
    rw [hkk] at h1
    exact h1
  have HL : Hid (∀ W, Aft w k W → RdBms W lv X) := fun W h => by
    have h1 := (HK.out.below h.b).l
    rw [hkk] at h1
    exact h1
  have HS : Hid (∀ W, Aft w k W → RdRows W sv R) := fun W h => by
    have h1 := (HK.out.below h.b).s
    rw [hkk] at h1
    exact h1
  have HBW : Hid (∀ W, Aft w k W → Below w.heap.size w W) := fun W h => h.b
  clear hkk
  simp only [CaseB.vals, CaseD] at *
  obtain ⟨A, c, rfl, hXc, _⟩ := rdbms_form hl
  obtain ⟨A2, c2, rfl, hRc, _, _⟩ := id hs
  clear hl hs htk hrl HK
  have hways : 200 ≤ X.length + ((bms X).map (fun b => b.tokens.length)).sum + (R.map List.length).sum ∨ (¬ 200 ≤ X.length + ((bms X).map (fun b => b.tokens.length)).sum + (R.map List.length).sum ∧ width < 1) ∨ (¬ 200 ≤ X.length + ((bms X).map (fun b => b.tokens.length)).sum + (R.map List.length).sum ∧ ¬ width < 1 ∧ 3 < width) ∨ (¬ 200 ≤ X.length + ((bms X).map (fun b => b.tokens.length)).sum + (R.map List.length).sum ∧ ¬ width < 1 ∧ ¬ 3 < width) := by omega
  rcases hways with hg | ⟨hg, hw1⟩ | ⟨hg, hw1, hw3⟩ | ⟨hg, hw1, hw3⟩
  · rw [decide_eq_true hg] at HG
    clear hnx hnr
    go_enter Try.func10, Try.ntmps10
    go_wp2_with (first
      | ((go_at_call 39); (refine (works19_any _).mono ?_); (rintro e w1 ⟨rfl, hb1⟩); (have HA1 := hid_ (HAB.out _ hb1)); (obtain ⟨d0, d1, d2, d3, d4, d5⟩ := HD.out w1 HA1.out); (clear hb1))
      | ((go_at_call 29); (refine (HG.out w1 HA1.out).mono ?_); (rintro e w3 ⟨rfl, hb3⟩); (have HA3 := hid_ (HAN.out _ _ HA1.out hb3)); (obtain ⟨d0, d1, d2, d3, d4, d5⟩ := HD.out w3 HA3.out); (clear hb3)))
    go_ret
    exact ⟨rfl, HBW.out w3 HA3.out⟩
  · rw [decide_eq_false hg] at HG
    clear hnx hnr
    go_enter Try.func10, Try.ntmps10
    go_wp2_with (first
      | ((go_at_call 39); (refine (works19_any _).mono ?_); (rintro e w1 ⟨rfl, hb1⟩); (have HA1 := hid_ (HAB.out _ hb1)); (obtain ⟨d0, d1, d2, d3, d4, d5⟩ := HD.out w1 HA1.out); (clear hb1))
      | ((go_at_call 29); (refine (HG.out w1 HA1.out).mono ?_); (rintro e w3 ⟨rfl, hb3⟩); (have HA3 := hid_ (HAN.out _ _ HA1.out hb3)); (obtain ⟨d0, d1, d2, d3, d4, d5⟩ := HD.out w3 HA3.out); (clear hb3)))
    go_ret
    exact ⟨rfl, HBW.out w3 HA3.out⟩
  · rw [decide_eq_false hg] at HG
    clear hnx hnr
    go_enter Try.func10, Try.ntmps10
    go_wp2_with (first
      | ((go_at_call 39); (refine (works19_any _).mono ?_); (rintro e w1 ⟨rfl, hb1⟩); (have HA1 := hid_ (HAB.out _ hb1)); (obtain ⟨d0, d1, d2, d3, d4, d5⟩ := HD.out w1 HA1.out); (clear hb1))
      | ((go_at_call 29); (refine (HG.out w1 HA1.out).mono ?_); (rintro e w3 ⟨rfl, hb3⟩); (have HA3 := hid_ (HAN.out _ _ HA1.out hb3)); (obtain ⟨d0, d1, d2, d3, d4, d5⟩ := HD.out w3 HA3.out); (clear hb3)))
    go_ret
    exact ⟨rfl, HBW.out w3 HA3.out⟩
  · rw [decide_eq_false hg] at HG
    have hxl : X.length < 200 := by omega
    have HSZ : Hid (X.length + (R.map List.length).sum < 200) := by
      show _
      exact (by omega : X.length + (R.map List.length).sum < 200)
    have HTK : Hid (∀ x ∈ X, x.b.tokens.length < 200) := bms_tok (by omega)
    have HTO : Hid (∀ W, Aft w k W → Calls Try.prog 30 #[.slice A X.length c] W (fun e w' => ∃ u Y, e = .returned u ∧ RdBms w' u Y ∧ bms Y = bms X ∧ Below W.heap.size W w')) := fun W h => to_any (HL.out W h) (by omega) (fun x hx => Nat.lt_trans (HTK.out x hx) (by omega))
    have HGG : Hid (∀ wd W u Y, Aft w k W → RdBms W u Y → bms Y = bms X → Calls Try.prog 31 #[u, .slice A2 R.length c2, .int .i64 wd, .int .i64 length, .int .i64 stop] W (GrowPost W (growE (bms X) R wd) (growB (bms X) R wd length stop) (growF (bms X) R wd length stop))) := fun wd W u Y h hy hb => by
      have hyl : Y.length = X.length := by rw [← bms_length, hb, bms_length]
      have h1 := grow_any hy (HS.out W h) (by rw [hyl]; exact HSZ.out) (by omega) (bms_tok (by rw [hb]; omega)) wd length stop
      rw [hb] at h1
      exact h1
    have HG1 := hid_ (HGG.out width)
    have HG2 := hid_ (HGG.out (width + 1))
    rw [growE_wide _ _ (by omega) (by omega)] at HG2
    have HWB := hid_ (growB_wide (bms X) R width length stop (by omega) (by omega))
    have HWF := hid_ (growF_wide (bms X) R width length stop (by omega) (by omega))
    have hn := growB_more (bms X) R width length stop (by omega) (by omega)
    have hn4 := growB_len (bms X) R (width + 1) length stop
    obtain ⟨n1, hm1⟩ : ∃ n, (growB (bms X) R width length stop).length = n := ⟨_, rfl⟩
    obtain ⟨n2, hm2⟩ : ∃ n, (growB (bms X) R (width + 1) length stop).length = n := ⟨_, rfl⟩
    rw [hm1] at HWB HWF hn
    rw [hm2] at hn hn4
    have HL1 : Hid ((growB (bms X) R width length stop).length = n1 ∧ (growF (bms X) R width length stop).length = n1) := ⟨hm1, (grow_lens _ _ _ _ _).trans hm1⟩
    have HL2 : Hid ((growB (bms X) R (width + 1) length stop).length = n2 ∧ (growF (bms X) R (width + 1) length stop).length = n2) := ⟨hm2, (grow_lens _ _ _ _ _).trans hm2⟩
    clear hm1 hm2
    generalize growE (bms X) R width = E at *
    generalize growB (bms X) R width length stop = B1 at *
    generalize growF (bms X) R width length stop = F1 at *
    generalize growB (bms X) R (width + 1) length stop = B2 at *
    generalize growF (bms X) R (width + 1) length stop = F2 at *
    have hwr : IntKind.i64.wrap (width + 1) = width + 1 := w64 (by omega) (by omega)
    clear HGG
    clear hnx hnr
    go_enter Try.func10, Try.ntmps10
    go_wp2_with (first
      | ((go_at_call 39); (refine (works19_any _).mono ?_); (rintro e w1 ⟨rfl, hb1⟩); (have HA1 := hid_ (HAB.out _ hb1)); (obtain ⟨d0, d1, d2, d3, d4, d5⟩ := HD.out w1 HA1.out); (clear hb1))
      | ((go_at_call 29); (refine (HG.out w1 HA1.out).mono ?_); (rintro e w3 ⟨rfl, hb3⟩); (have HA3 := hid_ (HAN.out _ _ HA1.out hb3)); (obtain ⟨d0, d1, d2, d3, d4, d5⟩ := HD.out w3 HA3.out); (clear hb3)))
    go_wp2_with fail
    go_region_held3 (fun w' => w'.cell? ⟨w.heap.size, 0, none⟩ = some (.slice A X.length c) ∧ w'.cell? ⟨w.heap.size, 1, none⟩ = some (.slice A2 R.length c2) ∧ w'.cell? ⟨w.heap.size, 2, none⟩ = some (.int .i64 width) ∧ w'.cell? ⟨w.heap.size, 3, none⟩ = some (.int .i64 length) ∧ w'.cell? ⟨w.heap.size, 4, none⟩ = some (.int .i64 stop)) (go_keep) ((first
      | (go_at_call 30; refine (HTO.out _ (by first | exact HA3.out | exact HAN.out _ _ HA3.out ((Upd.refl (fun _ => False) w3).drew).toB)).mono ?_; rintro e w4 ⟨u4, Y4, rfl, hy4, hby4, hb4⟩; have hb4' : Below w3.heap.size w3 w4 := (by first | exact below_comp ((Upd.refl (fun _ => False) _).drew).toB hb4 | exact hb4); have HY4 := hid_ hy4; have HBY4 := hid_ hby4; have HA4 := hid_ (HAN.out _ _ HA3.out hb4'); obtain ⟨d0, d1, d2, d3, d4, d5⟩ := HD.out w4 HA4.out; clear hy4 hby4 hb4 hb4')
      | (go_at_call 31; refine (HG1.out w4 u4 Y4 HA4.out HY4.out HBY4.out).mono ?_; rintro e w5 ⟨v5, p5, X5, rfl, hx5, hbx5, hp5, hb5⟩; obtain ⟨Aa5, ca5, hva5, hca5, _⟩ := rdbms_form hx5; have hl5 : X5.length = n1 := (bms_length X5).symm.trans ((congrArg List.length hbx5).trans HL1.out.1); obtain ⟨Ap5, cp5, hpa5, hcp5, _⟩ := RdI.form hp5; rw [HL1.out.2] at hpa5 hcp5; rw [hl5] at hva5 hca5; subst hva5 hpa5; have HX5 := hid_ hx5; have HBX5 := hid_ hbx5; have HP5 := hid_ hp5; have HLX5 := hid_ hl5; have HA5 := hid_ (HAN.out _ _ HA4.out hb5); obtain ⟨d0, d1, d2, d3, d4, d5⟩ := HD.out w5 HA5.out; clear hx5 hbx5 hp5 hb5 hl5 HY4)))
    go_wp2_with fail
    go_region_held3 (fun w' => w'.cell? ⟨w.heap.size, 0, none⟩ = some (.slice A X.length c) ∧ w'.cell? ⟨w.heap.size, 1, none⟩ = some (.slice A2 R.length c2) ∧ w'.cell? ⟨w.heap.size, 2, none⟩ = some (.int .i64 width) ∧ w'.cell? ⟨w.heap.size, 3, none⟩ = some (.int .i64 length) ∧ w'.cell? ⟨w.heap.size, 4, none⟩ = some (.int .i64 stop)) (go_keep) ((first
      | (go_at_call 30; refine (HTO.out _ (by first | exact HA5.out | exact HAN.out _ _ HA5.out ((Upd.refl (fun _ => False) w5).drew).toB)).mono ?_; rintro e w6 ⟨u6, Y6, rfl, hy6, hby6, hb6⟩; have hb6' : Below w5.heap.size w5 w6 := (by first | exact below_comp ((Upd.refl (fun _ => False) _).drew).toB hb6 | exact hb6); have HY6 := hid_ hy6; have HBY6 := hid_ hby6; have HA6 := hid_ (HAN.out _ _ HA5.out hb6'); have HX5_6 := hid_ (rdbms_below HX5.out hb6'); have HP5_6 := hid_ (rdi_below HP5.out hb6'); obtain ⟨d0, d1, d2, d3, d4, d5⟩ := HD.out w6 HA6.out; clear hy6 hby6 hb6 hb6')
      | (go_at_call 31; refine (HG2.out w6 u6 Y6 HA6.out HY6.out HBY6.out).mono ?_; rintro e w7 ⟨v7, p7, X7, rfl, hx7, hbx7, hp7, hb7⟩; obtain ⟨Aa7, ca7, hva7, hca7, _⟩ := rdbms_form hx7; have hl7 : X7.length = n2 := (bms_length X7).symm.trans ((congrArg List.length hbx7).trans HL2.out.1); obtain ⟨Ap7, cp7, hpa7, hcp7, _⟩ := RdI.form hp7; rw [HL2.out.2] at hpa7 hcp7; rw [hl7] at hva7 hca7; subst hva7 hpa7; have HX7 := hid_ hx7; have HBX7 := hid_ hbx7; have HP7 := hid_ hp7; have HLX7 := hid_ hl7; have HA7 := hid_ (HAN.out _ _ HA6.out hb7); have HX5_7 := hid_ (rdbms_below HX5_6.out hb7); have HP5_7 := hid_ (rdi_below HP5_6.out hb7); obtain ⟨d0, d1, d2, d3, d4, d5⟩ := HD.out w7 HA7.out; clear hx7 hbx7 hp7 hb7 hl7 HY6)))
    have hX5 : Hid (bms X5 = (bms X7).take n1) := by
      show _ = _
      rw [HBX5.out, HBX7.out]
      exact HWB.out
    by_cases hE : E = 0
    · subst hE
      have hn' : (n1 : Int) ≤ (n2 : Int) := by omega
      have hc1 : (n1 : Int) ≤ (ca7 : Int) := by omega
      have hc2 : (n1 : Int) ≤ (cp7 : Int) := by omega
      have hc3 : n1 ≤ ca7 := by omega
      have hc4 : n1 ≤ cp7 := by omega
      have HN12 := hid_ hn
      have HTX : Hid (bms X5 = bms (X7.take n1)) := by
        have h := hX5.out
        show _ = _
        rw [h]
        exact (List.map_take).symm
      have hl5 : X5.length < 4294967296 := by
        have h := HLX5.out
        omega
      have hl7 : (X7.take n1).length < 4294967296 := by
        rw [List.length_take]
        omega
      have HL57 : Hid (X5.length < 4294967296 ∧ (X7.take n1).length < 4294967296) := ⟨hl5, hl7⟩
      have HFF : Hid (F2.take n1 = F1) := HWF.out.symm
      clear hl5 hl7
      have K1 : Hid True := trivial
      obtain ⟨d0, _⟩ := HD.out w7 HA7.out
      go_wp2_with fail
      go_region_held3 (fun w' => w'.cell? ⟨w.heap.size, 0, none⟩ = some (.slice A X.length c)) (go_keep) ((first
        | (go_at_call 34; have h9 := K1; refine (from_any (X := X5) (rdbms_drawn HX5_7.out 1) HL57.out.1).mono ?_; rintro e w8 ⟨u8, rfl, hx8, hb8⟩; have hb8' : Below w7.heap.size w7 w8 := (by first | exact below_comp ((Upd.refl (fun _ => False) _).drew).toB hb8 | exact hb8); have HU8 := hid_ hx8; have HX8 := hid_ (rdbms_below HX7.out hb8'); have HP58 := hid_ (rdi_below HP5_7.out hb8'); have HP78 := hid_ (rdi_below HP7.out hb8'); have HA8 := hid_ (HAN.out _ _ HA7.out hb8'); obtain ⟨d0, _⟩ := HD.out w8 HA8.out; clear h9 K1 hx8 hb8 hb8'; have K2 : Hid True := trivial)
        | (go_at_call 34; have h9 := K2; refine (from_any (w := w8) (X := X7.take n1) (rdbms_take HX8.out HN12.out) HL57.out.2).mono ?_; rintro e w9 ⟨u9, rfl, hx9, hb9⟩; have HU9 := hid_ hx9; have HU89 := hid_ (rdbms_below HU8.out hb9); have HP59 := hid_ (rdi_below HP58.out hb9); have HP79 := hid_ (rdi_below HP78.out hb9); have HA9 := hid_ (HAN.out _ _ HA8.out hb9); obtain ⟨d0, _⟩ := HD.out w9 HA9.out; clear h9 K2 hx9 hb9)
        | (go_at_call 33; refine (rsameB_true (w := w9) HU89.out HU9.out HTX.out).mono ?_; rintro e w10 ⟨rfl, hb10⟩; have HP510 := hid_ (rdi_below HP59.out hb10); have hp710 := rdi_takeB (rdi_below HP79.out hb10) HN12.out; rw [HFF.out] at hp710; have HP710 := hid_ hp710; have HA10 := hid_ (HAN.out _ _ HA9.out hb10); obtain ⟨d0, _⟩ := HD.out w10 HA10.out; clear hb10 hp710)
        | (go_at_call 22; refine (same7b (w := w10) HP510.out HP710.out).mono ?_; rintro e w11 ⟨rfl, hb11⟩; have HA11 := hid_ (HAN.out _ _ HA10.out hb11); obtain ⟨d0, _⟩ := HD.out w11 HA11.out; clear hb11)))
      go_wp2_with fail
      go_ret
      exact ⟨rfl, HBW.out w11 HA11.out⟩
    · have hE' : (E == 0) = false := beq_eq_false_iff_ne.2 hE
      go_wp2_with fail
      go_ret
      exact ⟨rfl, HBW.out w7 HA7.out⟩
end Go.Proofs.Ytfinbkpmkgpffaa
