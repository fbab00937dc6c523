/- The library's merge in place at a beam's candidates, with one of them on the right, walked. Conditions: the row is the whole block; the comparison turns nothing that was there, and answers by a plain function. -/
import Derived.Test.YtfinbkpmkgpffaaKSortWC
import Derived.Deep.DeepCutAuto
import Derived.Deep.CutBlock
namespace Go.Proofs.Ytfinbkpmkgpffaa
open Go.RowKit

set_option maxRecDepth 100000 in
set_option maxHeartbeats 3200000 in
theorem ksymR {w : World} {blk c a m b : Nat} {kt : KT} {d : List Int} {cf : Int → Int → Int} {dom : Int → Prop} (h : Blk w blk 73 (rowk kt d)) (hq : CmpK kt cf dom blk w) (hd : ∀ x ∈ d, dom x) (hm : d.length < 1152921504606846976) (ham : a < m) (hmb : m < b) (hbl : b ≤ d.length) (h0 : m - a ≠ 1) (h1 : b - m = 1) :
    Calls Try.prog 80 #[.slice (some ⟨blk, 0, none⟩) d.length c, .int .i64 a, .int .i64 m, .int .i64 b, kcmpv] w (RowkPost kt w blk 73 (dnR d m (m - bs (tR cf d m) (m - a) a m))) := by
  have H := hid_ h
  have HQ := hid_ hq
  have HD := hid_ hd
  obtain ⟨x, hx⟩ : ∃ x : Nat, x = m - a := ⟨_, rfl⟩
  have a1 : (m : Int) - a = (x : Int) := by omega
  have a2 : IntKind.i64.wrap ((m : Int) - a) = (x : Int) := by rw [a1]; exact w64 (by omega) (by omega)
  have a3 : ((x : Int) == 1) = false := by rw [beq_eq_false_iff_ne]; omega
  have a4 : ¬ (x : Int) = 1 := by omega
  have b1 : (b : Int) - m = 1 := by omega
  have b2 : IntKind.i64.wrap ((b : Int) - m) = 1 := by rw [b1]; exact w64 (by omega) (by omega)
  clear h hq hd h1 h0 hx
  unfold kcmpv
  go_enter Try.func80, Try.ntmps80
  go_wp2_with fail
  go_loopw [14, 15] (fun i j wr => ∃ (f ki kj : Nat), a ≤ ki ∧ ki ≤ kj ∧ kj ≤ m ∧ kj - ki ≤ f ∧ i = .int .i64 ki ∧ j = .int .i64 kj ∧ Blk wr blk 73 (rowk kt d) ∧ Only blk w wr ∧ Hid (bs (tR cf d m) f ki kj = bs (tR cf d m) (m - a) a m)) (fun i j _ => (intOf j).toNat - (intOf i).toNat)
  case atStart => exact ⟨m - a, a, m, Nat.le_refl _, by omega, Nat.le_refl _, Nat.le_refl _, rfl, rfl, H.out, Only.refl _ _, rfl⟩
  case round =>
    obtain ⟨f, ki, kj, hi, hij, hj, hf, rfl, rfl, hB, hO, HR⟩ := hrel
    have HB := hid_ hB
    have HO := hid_ hO
    clear hB hO
    by_cases hlt : ki < kj
    · have hlt' : (ki : Int) < (kj : Int) := by omega
      obtain ⟨f', rfl⟩ : ∃ f', f = f' + 1 := ⟨f - 1, by omega⟩
      obtain ⟨t, ht⟩ : ∃ t : Nat, t = (ki + kj) / 2 := ⟨_, rfl⟩
      have s1 : IntKind.i64.wrap ((ki : Int) + kj) = (ki : Int) + kj := w64 (by omega) (by omega)
      have t1 : ((ki : Int) + kj) / 2 = (t : Int) := by omega
      have t2 : ki ≤ t := by omega
      have t3 : t < kj := by omega
      have t4 : (t : Int) < (d.length : Int) := by omega
      have t5 : (m : Int) < (d.length : Int) := by omega
      have hR := HR.out
      rw [bs, if_pos hlt, ← ht] at hR
      have lu : m < d.length := (by omega)
      have lv : t < d.length := (by omega)
      have hc := fun (W : World) (hW : Upd (fun _ => False) wr W) => HQ.out W (HO.out.trans (hW.mono (fun _ _ h => h.elim))) (d.getD m 0) (d.getD t 0) (HD.out _ (mem_of_getD (i := m) (by omega))) (HD.out _ (mem_of_getD (i := t) (by omega)))
      have hT : tR cf d m t = !decide (cf (d.getD m 0) (d.getD t 0) < 0) := rfl
      obtain ⟨u, hu⟩ : ∃ u, d.getD m 0 = u := ⟨_, rfl⟩
      obtain ⟨v, hv⟩ : ∃ v, d.getD t 0 = v := ⟨_, rfl⟩
      obtain ⟨ua, un, uc, us, ud, uf, hcu⟩ := kt_open kt u
      obtain ⟨va, vn, vc, vs, vd, vf, hcv⟩ := kt_open kt v
      have HKU : Hid (∀ W, Blk W blk 73 (rowk kt d) → At4 W blk m ua un uc us ud uf) := fun W h => rowk_cell4 h lu hu hcu
      have HKV : Hid (∀ W, Blk W blk 73 (rowk kt d) → At4 W blk t va vn vc vs vd vf) := fun W h => rowk_cell4 h lv hv hcv
      obtain ⟨c10, c11, c12, c13⟩ := HKU.out _ HB.out
      obtain ⟨c20, c21, c22, c23⟩ := HKV.out _ HB.out
      have HCU := hid_ hcu
      have HCV := hid_ hcv
      have HLU := hid_ lu
      have HLV := hid_ lv
      rw [hu, hv, hcu, hcv] at hc
      clear hcu hcv lu lv
      rw [hu, hv] at hT
      have HC := hid_ hc
      rw [hT] at hR
      have HR2 := hid_ hR
      clear hR ht hc hu hv hT
      by_cases hlv : cf u v < 0
      · go_wp2_with fail
        go_region_held3 (fun w' => w'.cell? ⟨blk, m * 4, none⟩ = some (.slice ua un uc) ∧ w'.cell? ⟨blk, m * 4 + 1, none⟩ = some (.int .i64 us) ∧ w'.cell? ⟨blk, m * 4 + 2, none⟩ = some (.bool ud) ∧ w'.cell? ⟨blk, m * 4 + 3, none⟩ = some (.int .i64 uf) ∧ w'.cell? ⟨blk, t * 4, none⟩ = some (.slice va vn vc) ∧ w'.cell? ⟨blk, t * 4 + 1, none⟩ = some (.int .i64 vs) ∧ w'.cell? ⟨blk, t * 4 + 2, none⟩ = some (.bool vd) ∧ w'.cell? ⟨blk, t * 4 + 3, none⟩ = some (.int .i64 vf)) (go_keep) ((go_at_call 53; refine (HC.out _ ((Upd.refl _ _).drew)).mono ?_; rintro e w1 ⟨rfl, hu1⟩; have HU1 := hid_ (((Upd.refl (fun _ => False) wr).drew).trans hu1); have HB1 := hid_ (Blk.upd HB.out HU1.out (fun h => h)); have HO1 := hid_ (HO.out.trans (HU1.out.mono (fun _ _ h => h.elim))); obtain ⟨t10, t11, t12, t13⟩ := HKU.out _ HB1.out; obtain ⟨t20, t21, t22, t23⟩ := HKV.out _ HB1.out; clear hu1))
        go_wp2_with fail
        go_roundw
        case rel =>
          have h5 := HR2.out
          rw [if_neg (by rw [decide_eq_true hlv]; exact Bool.false_ne_true)] at h5
          exact ⟨f', ki, t, by omega, by omega, by omega, by omega, rfl, by first | rfl | go_num, HB1.out, HO1.out, h5⟩
        case measure => simp [intOf]; omega
      · have hlf : decide (cf u v < 0) = false := decide_eq_false hlv
        go_wp2_with fail
        go_region_held3 (fun w' => w'.cell? ⟨blk, m * 4, none⟩ = some (.slice ua un uc) ∧ w'.cell? ⟨blk, m * 4 + 1, none⟩ = some (.int .i64 us) ∧ w'.cell? ⟨blk, m * 4 + 2, none⟩ = some (.bool ud) ∧ w'.cell? ⟨blk, m * 4 + 3, none⟩ = some (.int .i64 uf) ∧ w'.cell? ⟨blk, t * 4, none⟩ = some (.slice va vn vc) ∧ w'.cell? ⟨blk, t * 4 + 1, none⟩ = some (.int .i64 vs) ∧ w'.cell? ⟨blk, t * 4 + 2, none⟩ = some (.bool vd) ∧ w'.cell? ⟨blk, t * 4 + 3, none⟩ = some (.int .i64 vf)) (go_keep) ((go_at_call 53; refine (HC.out _ ((Upd.refl _ _).drew)).mono ?_; rintro e w1 ⟨rfl, hu1⟩; have HU1 := hid_ (((Upd.refl (fun _ => False) wr).drew).trans hu1); have HB1 := hid_ (Blk.upd HB.out HU1.out (fun h => h)); have HO1 := hid_ (HO.out.trans (HU1.out.mono (fun _ _ h => h.elim))); obtain ⟨t10, t11, t12, t13⟩ := HKU.out _ HB1.out; obtain ⟨t20, t21, t22, t23⟩ := HKV.out _ HB1.out; clear hu1))
        go_wp2_with fail
        go_roundw
        case rel =>
          have h5 := HR2.out
          rw [if_pos (by rw [hlf]; rfl)] at h5
          exact ⟨f', t + 1, kj, by omega, by omega, by omega, by omega, by first | rfl | go_num, rfl, HB1.out, HO1.out, h5⟩
        case measure => simp [intOf]; omega
    · obtain rfl : ki = kj := by omega
      have h5 := HR.out
      rw [bs_end] at h5
      have HE : Hid (ki = bs (tR cf d m) (m - a) a m) := h5
      clear h5 HR
      go_wp2_with fail
      go_loopw [17] (fun k wr2 => ∃ (q : Nat), q ≤ m - ki ∧ k = .int .i64 ((m - q : Nat) : Int) ∧ Blk wr2 blk 73 (rowk kt (dnR d m q)) ∧ Only blk w wr2) (fun k _ => (intOf k).toNat - ki)
      case atStart => exact ⟨0, Nat.zero_le _, rfl, HB.out, HO.out⟩
      case round =>
        obtain ⟨q, hq, rfl, hB2, hO2⟩ := hrel
        have HB2 := hid_ hB2
        have HO2 := hid_ hO2
        clear hB2 hO2
        obtain ⟨p, hp⟩ : ∃ p, m - q = p := ⟨_, rfl⟩
        rw [hp]
        by_cases hlt : ki < p
        · have hlt' : (ki : Int) < (p : Int) := by omega
          obtain ⟨j1, hj1⟩ : ∃ j1, j1 = p - 1 := ⟨_, rfl⟩
          have hj2 : p < d.length := by omega
          have hj3 : j1 < d.length := by omega
          have hsb : (p : Int) - 1 = (j1 : Int) := by omega
          have hwp : IntKind.i64.wrap ((p : Int) - 1) = (j1 : Int) := by rw [hsb]; exact w64 (by omega) (by omega)
          have jz : (j1 : Int) < (d.length : Int) := by omega
          have jz1 : (p : Int) < (d.length : Int) := by omega
          have lu : p < (dnR d m q).length := (by rw [dnR_length]; omega)
          have lv : j1 < (dnR d m q).length := (by rw [dnR_length]; omega)
          obtain ⟨u, hu⟩ : ∃ u, (dnR d m q).getD p 0 = u := ⟨_, rfl⟩
          obtain ⟨v, hv⟩ : ∃ v, (dnR d m q).getD j1 0 = v := ⟨_, rfl⟩
          obtain ⟨ua, un, uc, us, ud, uf, hcu⟩ := kt_open kt u
          obtain ⟨va, vn, vc, vs, vd, vf, hcv⟩ := kt_open kt v
          have HKU : Hid (∀ W, Blk W blk 73 (rowk kt (dnR d m q)) → At4 W blk p ua un uc us ud uf) := fun W h => rowk_cell4 h lu hu hcu
          have HKV : Hid (∀ W, Blk W blk 73 (rowk kt (dnR d m q)) → At4 W blk j1 va vn vc vs vd vf) := fun W h => rowk_cell4 h lv hv hcv
          obtain ⟨c10, c11, c12, c13⟩ := HKU.out _ HB2.out
          obtain ⟨c20, c21, c22, c23⟩ := HKV.out _ HB2.out
          have HCU := hid_ hcu
          have HCV := hid_ hcv
          have HLU := hid_ lu
          have HLV := hid_ lv
          clear hcu hcv lu lv
          have f1 := fun o => Blk.frozen HB2.out o
          obtain ⟨⟨y0, z0⟩, ⟨y1, z1⟩, ⟨y2, z2⟩, ⟨y3, z3⟩⟩ := sets_has HB2.out (rowk_size _ _) p j1 (by rw [dnR_length]; omega) (.slice va vn vc) (.int .i64 vs) (.bool vd) (.int .i64 vf) (.slice ua un uc) (.int .i64 us) (.bool ud)
          have HU := hid_ hu
          have HV := hid_ hv
          have HP := hid_ hp
          have HJ := hid_ hj1
          clear hu hv hp hj1
          go_wp2_with fail
          go_region
          all_goals go_wp2_with fail
          have hex := rowk_ex8 HB2.out HLU.out HLV.out HU.out HV.out HCU.out HCV.out
          have hex1 := hex.1
          have hex2 := HO2.out.trans hex.2
          rw [show swapAt (dnR d m q) p j1 = dnR d m (q + 1) by rw [dnR, HP.out, ← HJ.out]] at hex1
          unfold ex8 at hex1 hex2
          have HX1 := hid_ hex1
          have HX2 := hid_ hex2
          clear hex hex1 hex2
          go_roundw
          case rel =>
            have hP := HP.out
            have hJ := HJ.out
            have hP := HP.out
            have hJ := HJ.out
            refine ⟨q + 1, by omega, ?_, HX1.out, HX2.out⟩
            exact val_i64 (by omega)
          case measure =>
            have hJ := HJ.out
            simp [intOf]; omega
        · have hge : ¬ (ki : Int) < (p : Int) := by omega
          obtain rfl : q = m - ki := by omega
          go_wp2_with fail
          go_end0
          have h6 := HB2.out
          rw [HE.out] at h6
          exact ⟨rfl, h6, HO2.out⟩
end Go.Proofs.Ytfinbkpmkgpffaa
