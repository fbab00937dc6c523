/- The library's merge in place by a comparison, at ints, where the right range is one number, walked. Conditions: the row is the whole block; the comparison only reads and answers by a plain function on the row's numbers. -/
import Derived.Test.YtfinbkpmkgpffaaSortWC
namespace Go.Proofs.Ytfinbkpmkgpffaa
open Go.RowKit

set_option maxRecDepth 100000 in
set_option maxHeartbeats 3200000 in
theorem symR {w : World} {blk c a m b xb : Nat} {d : List Int} {cf : Int → Int → Int} {dom : Int → Prop} (h : Blk w blk 3 (rowc d)) (hq : CmpQ xb cf dom blk w) (hd : ∀ x ∈ d, dom x) (hm : d.length < 1152921504606846976) (ham : a < m) (hmb : m < b) (hbl : b ≤ d.length) (h0 : m - a ≠ 1) (h1 : b - m = 1) :
    Calls Try.prog 77 #[.slice (some ⟨blk, 0, none⟩) d.length c, .int .i64 a, .int .i64 m, .int .i64 b, cmpv xb] w (RowPost w blk 3 (dnR d m (m - bs (tR cf d m) (m - a) a m))) := by
  have H := hid_ h
  have HQ := hid_ hq
  have HD := hid_ hd
  obtain ⟨x, hx⟩ : ∃ x : Nat, x = m - a := ⟨_, rfl⟩
  have a1 : (m : Int) - a = (x : Int) := by omega
  have a2 : IntKind.i64.wrap ((m : Int) - a) = (x : Int) := by rw [a1]; exact w64 (by omega) (by omega)
  have a3 : ((x : Int) == 1) = false := by rw [beq_eq_false_iff_ne]; omega
  have a4 : ¬ (x : Int) = 1 := by omega
  have b1 : (b : Int) - m = 1 := by omega
  have b2 : IntKind.i64.wrap ((b : Int) - m) = 1 := by rw [b1]; exact w64 (by omega) (by omega)
  clear h hq hd h1 h0 hx
  unfold cmpv
  go_enter Try.func77, Try.ntmps77
  go_wp2_with fail
  go_loopw [14, 15] (fun i j wr => ∃ (f ki kj : Nat), a ≤ ki ∧ ki ≤ kj ∧ kj ≤ m ∧ kj - ki ≤ f ∧ i = .int .i64 ki ∧ j = .int .i64 kj ∧ Blk wr blk 3 (rowc d) ∧ Only blk w wr ∧ Hid (bs (tR cf d m) f ki kj = bs (tR cf d m) (m - a) a m)) (fun i j _ => (intOf j).toNat - (intOf i).toNat)
  case atStart => exact ⟨m - a, a, m, Nat.le_refl _, by omega, Nat.le_refl _, Nat.le_refl _, rfl, rfl, H.out, Only.refl _ _, rfl⟩
  case round =>
    obtain ⟨f, ki, kj, hi, hij, hj, hf, rfl, rfl, hB, hO, HR⟩ := hrel
    have HB := hid_ hB
    have HO := hid_ hO
    clear hB hO
    by_cases hlt : ki < kj
    · have hlt' : (ki : Int) < (kj : Int) := by omega
      obtain ⟨f', rfl⟩ : ∃ f', f = f' + 1 := ⟨f - 1, by omega⟩
      obtain ⟨t, ht⟩ : ∃ t : Nat, t = (ki + kj) / 2 := ⟨_, rfl⟩
      have s1 : IntKind.i64.wrap ((ki : Int) + kj) = (ki : Int) + kj := w64 (by omega) (by omega)
      have t1 : ((ki : Int) + kj) / 2 = (t : Int) := by omega
      have t2 : ki ≤ t := by omega
      have t3 : t < kj := by omega
      have t4 : (t : Int) < (d.length : Int) := by omega
      have t5 : (m : Int) < (d.length : Int) := by omega
      have hR := HR.out
      rw [bs, if_pos hlt, ← ht] at hR
      have c1 := rowc_cell HB.out (i := t) (by omega)
      have c2 := rowc_cell HB.out (i := m) (by omega)
      have hc := HQ.out.at_ HO.out (HD.out _ (mem_of_getD (i := m) (by omega))) (HD.out _ (mem_of_getD (i := t) (by omega)))
      have hT : tR cf d m t = !decide (cf (d.getD m 0) (d.getD t 0) < 0) := rfl
      obtain ⟨u, hu⟩ : ∃ u, d.getD m 0 = u := ⟨_, rfl⟩
      obtain ⟨v, hv⟩ : ∃ v, d.getD t 0 = v := ⟨_, rfl⟩
      rw [hu] at c2 hc hT
      rw [hv] at c1 hc hT
      have HC := hid_ hc
      rw [hT] at hR
      have HR2 := hid_ hR
      clear hR ht hc hu hv hT
      by_cases hlv : cf u v < 0
      · go_wp2_with fail
        go_quiet ((go_at_call 46; exact Calls.quiet_of (HC.out _)))
        go_wp2_with fail
        go_roundw
        case rel =>
          have h5 := HR2.out
          rw [if_neg (by rw [decide_eq_true hlv]; exact Bool.false_ne_true)] at h5
          exact ⟨f', ki, t, by omega, by omega, by omega, by omega, rfl, by first | rfl | go_num, HB.out, HO.out.drewN _, h5⟩
        case measure => simp [intOf]; omega
      · have hlf : decide (cf u v < 0) = false := decide_eq_false hlv
        go_wp2_with fail
        go_quiet ((go_at_call 46; exact Calls.quiet_of (HC.out _)))
        go_wp2_with fail
        go_roundw
        case rel =>
          have h5 := HR2.out
          rw [if_pos (by rw [hlf]; rfl)] at h5
          exact ⟨f', t + 1, kj, by omega, by omega, by omega, by omega, by first | rfl | go_num, rfl, HB.out, HO.out.drewN _, h5⟩
        case measure => simp [intOf]; omega
    · obtain rfl : ki = kj := by omega
      have h5 := HR.out
      rw [bs_end] at h5
      have HE : Hid (ki = bs (tR cf d m) (m - a) a m) := h5
      clear h5 HR
      go_wp2_with fail
      go_loopw [17] (fun k wr2 => ∃ (q : Nat), q ≤ m - ki ∧ k = .int .i64 ((m - q : Nat) : Int) ∧ Blk wr2 blk 3 (rowc (dnR d m q)) ∧ Only blk w wr2) (fun k _ => (intOf k).toNat - ki)
      case atStart => exact ⟨0, Nat.zero_le _, rfl, HB.out, HO.out⟩
      case round =>
        obtain ⟨q, hq, rfl, hB2, hO2⟩ := hrel
        have HB2 := hid_ hB2
        have HO2 := hid_ hO2
        clear hB2 hO2
        obtain ⟨p, hp⟩ : ∃ p, m - q = p := ⟨_, rfl⟩
        rw [hp]
        by_cases hlt : ki < p
        · have hlt' : (ki : Int) < (p : Int) := by omega
          obtain ⟨j1, hj1⟩ : ∃ j1, j1 = p - 1 := ⟨_, rfl⟩
          have hj2 : p < d.length := by omega
          have hj3 : j1 < d.length := by omega
          have hsb : (p : Int) - 1 = (j1 : Int) := by omega
          have hwp : IntKind.i64.wrap ((p : Int) - 1) = (j1 : Int) := by rw [hsb]; exact w64 (by omega) (by omega)
          have jz : (j1 : Int) < (d.length : Int) := by omega
          have jz1 : (p : Int) < (d.length : Int) := by omega
          have c1 := rowc_cell HB2.out (i := p) (by rw [dnR_length]; omega)
          have c2 := rowc_cell HB2.out (i := j1) (by rw [dnR_length]; omega)
          have f1 := HB2.out.frozen p
          have f2 := HB2.out.frozen j1
          obtain ⟨u, hu⟩ : ∃ u, (dnR d m q).getD p 0 = u := ⟨_, rfl⟩
          obtain ⟨v, hv⟩ : ∃ v, (dnR d m q).getD j1 0 = v := ⟨_, rfl⟩
          rw [hu] at c1
          rw [hv] at c2
          obtain ⟨y, c3⟩ : ∃ y, (wr.setCell ⟨blk, p, none⟩ (.int .i64 v)).cell? ⟨blk, j1, none⟩ = some y := ⟨_, rowc_cell (rowc_set HB2.out p v) (i := j1) (by rw [List.length_set, dnR_length]; omega)⟩
          have HU := hid_ hu
          have HV := hid_ hv
          have HP := hid_ hp
          have HJ := hid_ hj1
          clear hu hv hp hj1
          go_wp2_with fail
          go_region
          all_goals go_wp2_with fail
          go_roundw
          case rel =>
            have hP := HP.out
            have hJ := HJ.out
            refine ⟨q + 1, by omega, ?_, ?_, ((HO2.out.set _ _).set _ _).drew⟩
            · congr 1; omega
            · have h5 := rowc_swap HB2.out p j1
              rw [HU.out, HV.out] at h5
              rw [dnR, hP, ← hJ]
              exact h5
          case measure =>
            have hJ := HJ.out
            simp [intOf]; omega
        · have hge : ¬ (ki : Int) < (p : Int) := by omega
          obtain rfl : q = m - ki := by omega
          go_wp2_with fail
          go_end0
          have h6 := HB2.out
          rw [HE.out] at h6
          exact ⟨rfl, h6, HO2.out⟩
end Go.Proofs.Ytfinbkpmkgpffaa
