/- The library's merge in place by a comparison, at ints, walked: it does what the plain function does. Conditions: the row is the whole block; the comparison only reads and answers by a plain function on the row's numbers; both ranges hold a number. -/
import Derived.Test.YtfinbkpmkgpffaaSortWB
import Derived.Deep.DeepCutAuto
import Derived.Deep.CutBlock
namespace Go.Proofs.Ytfinbkpmkgpffaa
open Go.RowKit

def bs (p : Nat → Bool) : Nat → Nat → Nat → Nat
  | 0, i, _ => i
  | f + 1, i, j => if i < j then (if p ((i + j) / 2) then bs p f ((i + j) / 2 + 1) j else bs p f i ((i + j) / 2)) else i
theorem bs_le (p : Nat → Bool) : ∀ (f i j : Nat), i ≤ j → i ≤ bs p f i j ∧ bs p f i j ≤ j
  | 0, i, j, h => ⟨Nat.le_refl _, h⟩
  | f + 1, i, j, h => by
    unfold bs
    split
    · split
      · have := bs_le p f ((i + j) / 2 + 1) j (by omega)
        omega
      · have := bs_le p f i ((i + j) / 2) (by omega)
        omega
    · exact ⟨Nat.le_refl _, h⟩
theorem bs_end (p : Nat → Bool) (f i : Nat) : bs p f i i = i := by cases f <;> simp [bs]
def upR (d : List Int) (a : Nat) : Nat → List Int
  | 0 => d
  | n + 1 => swapAt (upR d a n) (a + n) (a + n + 1)
def dnR (d : List Int) (m : Nat) : Nat → List Int
  | 0 => d
  | n + 1 => swapAt (dnR d m n) (m - n) (m - n - 1)
theorem upR_length (d : List Int) (a : Nat) : ∀ n, (upR d a n).length = d.length
  | 0 => rfl
  | n + 1 => by rw [upR, swapAt_length, upR_length d a n]
theorem dnR_length (d : List Int) (m : Nat) : ∀ n, (dnR d m n).length = d.length
  | 0 => rfl
  | n + 1 => by rw [dnR, swapAt_length, dnR_length d m n]

def tL (cf : Int → Int → Int) (d : List Int) (a : Nat) (h : Nat) : Bool := decide (cf (d.getD h 0) (d.getD a 0) < 0)
def tR (cf : Int → Int → Int) (d : List Int) (m : Nat) (h : Nat) : Bool := !decide (cf (d.getD m 0) (d.getD h 0) < 0)
def tM (cf : Int → Int → Int) (d : List Int) (n : Nat) (h : Nat) : Bool := !decide (cf (d.getD (n - 1 - h) 0) (d.getD h 0) < 0)
/-- where the halves part -/
def stM (cf : Int → Int → Int) (a m b : Nat) (d : List Int) : Nat :=
  bs (tM cf d ((a + b) / 2 + m)) (b - a) (if (a + b) / 2 < m then (a + b) / 2 + m - b else a) (if (a + b) / 2 < m then (a + b) / 2 else m)
def symM (cf : Int → Int → Int) : Nat → Nat → Nat → Nat → List Int → List Int
  | 0, _, _, _, d => d
  | f + 1, a, m, b, d =>
    if m - a = 1 then upR d a (bs (tL cf d a) (b - m) m b - 1 - a)
    else if b - m = 1 then dnR d m (m - bs (tR cf d m) (m - a) a m)
    else
      let st := stM cf a m b d
      let en := (a + b) / 2 + m - st
      let d1 := if st < m ∧ m < en then rot m (en - st) (m - st) (en - m) d else d
      let d2 := if a < st ∧ st < (a + b) / 2 then symM cf f a st ((a + b) / 2) d1 else d1
      if (a + b) / 2 < en ∧ en < b then symM cf f ((a + b) / 2) en b d2 else d2

set_option maxRecDepth 100000 in
set_option maxHeartbeats 3200000 in
theorem symL {w : World} {blk c a m b xb : Nat} {d : List Int} {cf : Int → Int → Int} {dom : Int → Prop} (h : Blk w blk 3 (rowc d)) (hq : CmpQ xb cf dom blk w) (hd : ∀ x ∈ d, dom x) (hm : d.length < 1152921504606846976) (ham : a < m) (hmb : m < b) (hbl : b ≤ d.length) (h1 : m - a = 1) :
    Calls Try.prog 77 #[.slice (some ⟨blk, 0, none⟩) d.length c, .int .i64 a, .int .i64 m, .int .i64 b, cmpv xb] w (RowPost w blk 3 (upR d a (bs (tL cf d a) (b - m) m b - 1 - a))) := by
  have H := hid_ h
  have HQ := hid_ hq
  have HD := hid_ hd
  have a1 : (m : Int) - a = 1 := by omega
  have a2 : IntKind.i64.wrap ((m : Int) - a) = 1 := by rw [a1]; exact w64 (by omega) (by omega)
  clear h hq hd h1
  unfold cmpv
  go_enter Try.func77, Try.ntmps77
  go_wp2_with fail
  go_loopw [10, 11] (fun i j wr => ∃ (f ki kj : Nat), m ≤ ki ∧ ki ≤ kj ∧ kj ≤ b ∧ kj - ki ≤ f ∧ i = .int .i64 ki ∧ j = .int .i64 kj ∧ Blk wr blk 3 (rowc d) ∧ Only blk w wr ∧ Hid (bs (tL cf d a) f ki kj = bs (tL cf d a) (b - m) m b)) (fun i j _ => (intOf j).toNat - (intOf i).toNat)
  case atStart => exact ⟨b - m, m, b, Nat.le_refl _, by omega, Nat.le_refl _, Nat.le_refl _, rfl, rfl, H.out, Only.refl _ _, rfl⟩
  case round =>
    obtain ⟨f, ki, kj, hi, hij, hj, hf, rfl, rfl, hB, hO, HR⟩ := hrel
    have HB := hid_ hB
    have HO := hid_ hO
    clear hB hO
    by_cases hlt : ki < kj
    · have hlt' : (ki : Int) < (kj : Int) := by omega
      obtain ⟨f', rfl⟩ : ∃ f', f = f' + 1 := ⟨f - 1, by omega⟩
      obtain ⟨t, ht⟩ : ∃ t : Nat, t = (ki + kj) / 2 := ⟨_, rfl⟩
      have s1 : IntKind.i64.wrap ((ki : Int) + kj) = (ki : Int) + kj := w64 (by omega) (by omega)
      have t1 : ((ki : Int) + kj) / 2 = (t : Int) := by omega
      have t2 : ki ≤ t := by omega
      have t3 : t < kj := by omega
      have t4 : (t : Int) < (d.length : Int) := by omega
      have t5 : (a : Int) < (d.length : Int) := by omega
      have hR := HR.out
      rw [bs, if_pos hlt, ← ht] at hR
      have c1 := rowc_cell HB.out (i := t) (by omega)
      have c2 := rowc_cell HB.out (i := a) (by omega)
      have hc := HQ.out.at_ HO.out (HD.out _ (mem_of_getD (i := t) (by omega))) (HD.out _ (mem_of_getD (i := a) (by omega)))
      have hT : tL cf d a t = decide (cf (d.getD t 0) (d.getD a 0) < 0) := rfl
      obtain ⟨u, hu⟩ : ∃ u, d.getD t 0 = u := ⟨_, rfl⟩
      obtain ⟨v, hv⟩ : ∃ v, d.getD a 0 = v := ⟨_, rfl⟩
      rw [hu] at c1 hc hT
      rw [hv] at c2 hc hT
      have HC := hid_ hc
      rw [hT] at hR
      have HR2 := hid_ hR
      clear hR ht hc hu hv hT
      by_cases hlv : cf u v < 0
      · go_wp2_with fail
        go_quiet ((go_at_call 46; exact Calls.quiet_of (HC.out _)))
        go_wp2_with fail
        go_roundw
        case rel =>
          have h5 := HR2.out
          rw [if_pos (decide_eq_true hlv)] at h5
          exact ⟨f', t + 1, kj, by omega, by omega, by omega, by omega, by first | rfl | go_num, rfl, HB.out, HO.out.drewN _, h5⟩
        case measure => simp [intOf]; omega
      · have hlf : decide (cf u v < 0) = false := decide_eq_false hlv
        go_wp2_with fail
        go_quiet ((go_at_call 46; exact Calls.quiet_of (HC.out _)))
        go_wp2_with fail
        go_roundw
        case rel =>
          have h5 := HR2.out
          rw [if_neg (by rw [hlf]; exact Bool.false_ne_true)] at h5
          exact ⟨f', ki, t, by omega, by omega, by omega, by omega, rfl, by first | rfl | go_num, HB.out, HO.out.drewN _, h5⟩
        case measure => simp [intOf]; omega
    · obtain rfl : ki = kj := by omega
      have h5 := HR.out
      rw [bs_end] at h5
      have hi1 : (ki : Int) - 1 = ((ki - 1 : Nat) : Int) := by omega
      obtain ⟨e, he⟩ : ∃ e : Nat, e = ki - 1 := ⟨_, rfl⟩
      have e1 : (ki : Int) - 1 = (e : Int) := by omega
      have e2 : IntKind.i64.wrap ((ki : Int) - 1) = (e : Int) := by rw [e1]; exact w64 (by omega) (by omega)
      have e3 : a ≤ e := by omega
      have e4 : e < b := by omega
      have HE : Hid (e = bs (tL cf d a) (b - m) m b - 1) := by
        show _ = _
        rw [← h5]
        exact he
      clear hi1 he h5 HR
      go_wp2_with fail
      go_loopw [13] (fun k wr2 => ∃ (q : Nat), q ≤ e - a ∧ k = .int .i64 ((a + q : Nat) : Int) ∧ Blk wr2 blk 3 (rowc (upR d a q)) ∧ Only blk w wr2) (fun k _ => e - (intOf k).toNat)
      case atStart => exact ⟨0, Nat.zero_le _, rfl, HB.out, HO.out⟩
      case round =>
        obtain ⟨q, hq, rfl, hB2, hO2⟩ := hrel
        have HB2 := hid_ hB2
        have HO2 := hid_ hO2
        clear hB2 hO2
        obtain ⟨p, hp⟩ : ∃ p, a + q = p := ⟨_, rfl⟩
        rw [hp]
        by_cases hlt : q < e - a
        · have hlt' : (p : Int) < (e : Int) := by omega
          obtain ⟨j1, hj1⟩ : ∃ j1, j1 = p + 1 := ⟨_, rfl⟩
          have hj2 : j1 < d.length := by omega
          have hwp : IntKind.i64.wrap ((p : Int) + 1) = (p : Int) + 1 := w64 (by omega) (by omega)
          have jz : (p : Int) + 1 < (d.length : Int) := by omega
          have jz1 : (p : Int) < (d.length : Int) := by omega
          have p0 : (0 : Int) ≤ (p : Int) + 1 := by omega
          have e0 : ((p : Int) + 1).toNat = j1 := by omega
          have c1 := rowc_cell HB2.out (i := p) (by rw [upR_length]; omega)
          have c2 := rowc_cell HB2.out (i := j1) (by rw [upR_length]; omega)
          have f1 := HB2.out.frozen p
          have f2 := HB2.out.frozen j1
          obtain ⟨u, hu⟩ : ∃ u, (upR d a q).getD p 0 = u := ⟨_, rfl⟩
          obtain ⟨v, hv⟩ : ∃ v, (upR d a q).getD j1 0 = v := ⟨_, rfl⟩
          rw [hu] at c1
          rw [hv] at c2
          obtain ⟨y, c3⟩ : ∃ y, (wr.setCell ⟨blk, p, none⟩ (.int .i64 v)).cell? ⟨blk, j1, none⟩ = some y := ⟨_, rowc_cell (rowc_set HB2.out p v) (i := j1) (by rw [List.length_set, upR_length]; omega)⟩
          have HU := hid_ hu
          have HV := hid_ hv
          have HP := hid_ hp
          have HJ := hid_ hj1
          clear hu hv hp hj1
          go_wp2_with fail
          go_region
          all_goals go_wp2_with fail
          go_roundw
          case rel =>
            refine ⟨q + 1, by omega, ?_, ?_, ((HO2.out.set _ _).set _ _).drew⟩
            · have := HP.out
              first | rfl | (congr 1; omega)
            · have h5 := rowc_swap HB2.out p j1
              rw [HU.out, HV.out] at h5
              rw [upR, HP.out, ← HJ.out]
              exact h5
          case measure => simp [intOf]; omega
        · have hge : ¬ (p : Int) < (e : Int) := by omega
          obtain rfl : q = e - a := by omega
          go_wp2_with fail
          go_end0
          have h6 := HB2.out
          rw [HE.out] at h6
          exact ⟨rfl, h6, HO2.out⟩
end Go.Proofs.Ytfinbkpmkgpffaa
