/- The library's insertion sort by a comparison, at ints, walked. Conditions: the row is the whole block; the comparison only reads and answers by a plain function on the row's numbers. -/
import Derived.Test.YtfinbkpmkgpffaaSortW
namespace Go.Proofs.Ytfinbkpmkgpffaa
open Go.RowKit

def cmpv (xb : Nat) : Value := .func (.func 46) #[] #[.pointer (some ⟨xb, 0, none⟩)]
def CmpQ (xb : Nat) (cf : Int → Int → Int) (dom : Int → Prop) (blk : Nat) (w : World) : Prop :=
  ∀ W, Only blk w W → ∀ x y, dom x → dom y → Calls Try.prog 46 #[.int .i64 x, .int .i64 y, .pointer (some ⟨xb, 0, none⟩)] W (fun e W' => e = .returned (.int .i64 (cf x y)) ∧ ∃ q, W' = W.drewN q)
theorem CmpQ.next {xb : Nat} {cf : Int → Int → Int} {dom : Int → Prop} {blk : Nat} {w w' : World} (h : CmpQ xb cf dom blk w) (ho : Only blk w w') : CmpQ xb cf dom blk w' := fun W hW => h W (ho.trans hW)
theorem CmpQ.at_ {xb : Nat} {cf : Int → Int → Int} {dom : Int → Prop} {blk : Nat} {w w' : World} (h : CmpQ xb cf dom blk w) (ho : Only blk w w') {x y : Int} (hx : dom x) (hy : dom y) (n : Nat) :
    Calls Try.prog 46 #[.int .i64 x, .int .i64 y, .pointer (some ⟨xb, 0, none⟩)] (w'.drewN n) (fun e W' => e = .returned (.int .i64 (cf x y)) ∧ ∃ q, W' = (w'.drewN n).drewN q) := h _ (ho.drewN n) x y hx hy

def insIn (cf : Int → Int → Int) (a : Nat) : Nat → List Int → List Int
  | 0, d => d
  | j + 1, d => if a ≤ j ∧ cf (d.getD (j + 1) 0) (d.getD j 0) < 0 then insIn cf a j (swapAt d (j + 1) j) else d
def insOut (cf : Int → Int → Int) (a : Nat) : Nat → Nat → List Int → List Int
  | 0, _, d => d
  | n + 1, i, d => insOut cf a n (i + 1) (insIn cf a i d)
theorem insIn_length (cf : Int → Int → Int) (a : Nat) : ∀ (j : Nat) (d : List Int), (insIn cf a j d).length = d.length
  | 0, d => rfl
  | j + 1, d => by
    unfold insIn
    split
    · rw [insIn_length cf a j, swapAt_length]
    · rfl
theorem insOut_length (cf : Int → Int → Int) (a : Nat) : ∀ (n i : Nat) (d : List Int), (insOut cf a n i d).length = d.length
  | 0, _, d => rfl
  | n + 1, i, d => by rw [insOut, insOut_length cf a n, insIn_length]
theorem mem_of_getD {d : List Int} {i : Nat} (h : i < d.length) : d.getD i 0 ∈ d := by
  rw [List.getD_eq_getElem?_getD, List.getElem?_eq_getElem h]
  exact List.getElem_mem h
theorem swapAt_dom {dom : Int → Prop} {d : List Int} (h : ∀ x ∈ d, dom x) {i j : Nat} (hi : i < d.length) (hj : j < d.length) : ∀ x ∈ swapAt d i j, dom x := by
  intro x hx
  rcases List.mem_or_eq_of_mem_set hx with hx | rfl
  · rcases List.mem_or_eq_of_mem_set hx with hx | rfl
    · exact h x hx
    · exact h _ (mem_of_getD hj)
  · exact h _ (mem_of_getD hi)

set_option maxHeartbeats 3200000 in
theorem insertion_any {w : World} {blk c a b xb : Nat} {d : List Int} {cf : Int → Int → Int} {dom : Int → Prop} (h : Blk w blk 3 (rowc d)) (hq : CmpQ xb cf dom blk w) (hd : ∀ x ∈ d, dom x) (hm : d.length < 1152921504606846976) (hab : a ≤ b) (hbl : b ≤ d.length) :
    Calls Try.prog 76 #[.slice (some ⟨blk, 0, none⟩) d.length c, .int .i64 a, .int .i64 b, cmpv xb] w (RowPost w blk 3 (insOut cf a (b - (a + 1)) (a + 1) d)) := by
  have H := hid_ h
  have HQ := hid_ hq
  have HD := hid_ hd
  clear h hq hd
  unfold cmpv
  have a2 : IntKind.i64.wrap ((a : Int) + 1) = (a : Int) + 1 := w64 (by omega) (by omega)
  go_enter Try.func76, Try.ntmps76
  go_wp2_with fail
  go_loopg [8] (b - a) (fun g1 i wr => ∃ (ki n : Nat) (dk : List Int), i = .int .i64 ki ∧ a < ki ∧ ki + n = max b (a + 1) ∧ n ≤ g1 ∧ dk.length = d.length ∧ Blk wr blk 3 (rowc dk) ∧ Only blk w wr ∧ Hid (∀ x ∈ dk, dom x) ∧ Hid (insOut cf a n ki dk = insOut cf a (b - (a + 1)) (a + 1) d))
  case atStart => exact ⟨a + 1, b - (a + 1), d, by go_num, by omega, by omega, by omega, rfl, H.out, Only.refl _ _, HD, rfl⟩
  case round =>
    obtain ⟨ki, n, dk, rfl, hai, hin, hg, hl, hB, hO, HDk, HR⟩ := hrel
    have HB := hid_ hB
    have HO := hid_ hO
    have HL := hid_ hl
    clear hB hO hl
    by_cases hlt : ki < b
    · have hlt' : (ki : Int) < (b : Int) := by omega
      go_wp2_with fail
      go_loopg [9] ki (fun g2 j wr2 => ∃ (kj : Nat) (dj : List Int), j = .int .i64 kj ∧ a ≤ kj ∧ kj ≤ ki ∧ kj ≤ g2 ∧ dj.length = d.length ∧ Blk wr2 blk 3 (rowc dj) ∧ Only blk w wr2 ∧ Hid (∀ x ∈ dj, dom x) ∧ Hid (insIn cf a kj dj = insIn cf a ki dk))
      case atStart => exact ⟨ki, dk, rfl, by omega, Nat.le_refl _, Nat.le_refl _, HL.out, HB.out, HO.out, HDk, rfl⟩
      case round =>
        obtain ⟨kj, dj, rfl, haj, hji, hg2, hlj, hBj, hOj, HDj, HI⟩ := hrel
        have HBj := hid_ hBj
        have HOj := hid_ hOj
        have HLj := hid_ hlj
        clear hBj hOj hlj
        by_cases hja : a < kj
        · have hjaz : (a : Int) < (kj : Int) := by omega
          obtain ⟨jp, rfl⟩ : ∃ jp, kj = jp + 1 := ⟨kj - 1, by omega⟩
          have hj1 : jp + 1 < dj.length := by rw [HLj.out]; omega
          have c1 := rowc_cell HBj.out (i := jp + 1) hj1
          have c2 := rowc_cell HBj.out (i := jp) (by omega)
          have hc := HQ.out.at_ HOj.out (HDj.out _ (mem_of_getD hj1)) (HDj.out _ (mem_of_getD (i := jp) (by omega)))
          obtain ⟨u, hu⟩ : ∃ u, dj.getD (jp + 1) 0 = u := ⟨_, rfl⟩
          obtain ⟨v, hv⟩ : ∃ v, dj.getD jp 0 = v := ⟨_, rfl⟩
          rw [hu] at c1 hc
          rw [hv] at c2 hc
          have hI := HI.out
          rw [insIn, hu, hv] at hI
          have HI2 := hid_ hI
          have HU := hid_ hu
          have HV := hid_ hv
          have HC := hid_ hc
          have HJ := hid_ hj1
          clear hI hu hv hc hj1
          obtain ⟨j1, hj1⟩ : ∃ j1, j1 = jp + 1 := ⟨_, rfl⟩
          have f1 := HBj.out.frozen j1
          have f2 := HBj.out.frozen jp
          rw [← hj1] at c1
          have J1 := hid_ hj1
          have hwp : IntKind.i64.wrap (jp : Int) = (jp : Int) := w64 (by omega) (by omega)
          have jz : (jp : Int) + 1 < (d.length : Int) := by omega
          have jz1 : (jp : Int) < (d.length : Int) := by omega
          have hjaz' : (a : Int) < (jp : Int) + 1 := by omega
          have p0 : (0 : Int) ≤ (jp : Int) + 1 := by omega
          have e0 : ((jp : Int) + 1).toNat = j1 := by omega
          clear hj1
          by_cases hlv : cf u v < 0
          · go_wp2_with fail
            go_quiet ((go_at_call 46; exact Calls.quiet_of (HC.out _)))
            go_wp2_with fail
            have HB2 : Hid (Blk (wr.drewN nq) blk 3 (rowc dj)) := HBj.out
            have HO2 : Hid (Only blk w (wr.drewN nq)) := HOj.out.drewN nq
            have c4 : (wr.drewN nq).cell? ⟨blk, j1, none⟩ = some (.int .i64 u) := c1
            have c5 : (wr.drewN nq).cell? ⟨blk, jp, none⟩ = some (.int .i64 v) := c2
            have f4 : (wr.drewN nq).frozen? ⟨blk, j1, none⟩ = false := f1
            have f5 : (wr.drewN nq).frozen? ⟨blk, jp, none⟩ = false := f2
            clear c1 c2 f1 f2 HC
            generalize wr.drewN nq = wq at *
            obtain ⟨y, c3⟩ : ∃ y, (wq.setCell ⟨blk, j1, none⟩ (.int .i64 v)).cell? ⟨blk, jp, none⟩ = some y := ⟨_, rowc_cell (rowc_set HB2.out j1 v) (i := jp) (by have := HJ.out; rw [List.length_set]; omega)⟩
            go_region
            all_goals go_wp2_with fail
            go_roundg jp
            case measure => omega
            case rel =>
              refine ⟨jp, swapAt dj (jp + 1) jp, by first | rfl | go_num, by omega, by omega, Nat.le_refl _, by rw [swapAt_length]; exact HLj.out, ?_, ((HO2.out.set _ _).set _ _).drew, ?_, ?_⟩
              · have h5 := rowc_swap HB2.out (jp + 1) jp
                rw [HU.out, HV.out, ← J1.out] at h5
                rw [← J1.out]
                exact h5
              · exact swapAt_dom HDj.out HJ.out (by have := HJ.out; omega)
              · have h5 := HI2.out
                rw [if_pos ⟨by omega, hlv⟩] at h5
                exact h5
          · go_wp2_with fail
            go_quiet ((go_at_call 46; exact Calls.quiet_of (HC.out _)))
            go_wp2_with fail
            have h5 := HI2.out
            rw [if_neg (fun h => by have := h.2; omega)] at h5
            have HI3 := hid_ h5
            clear h5
            go_roundg (b - (ki + 1))
            case measure => omega
            case rel =>
              refine ⟨ki + 1, n - 1, dj, by first | rfl | go_num, by omega, by omega, by omega, HLj.out, HBj.out, HOj.out.drewN _, HDj, ?_⟩
              have h6 := HR.out
              obtain ⟨n', rfl⟩ : ∃ n', n = n' + 1 := ⟨n - 1, by omega⟩
              rw [insOut, ← HI3.out] at h6
              exact h6
        · have hjaz : ¬ (a : Int) < (kj : Int) := by omega
          go_wp2_with fail
          go_quiet (fail)
          go_wp2_with fail
          have h5 : insIn cf a kj dj = dj := by
            cases kj with
            | zero => rfl
            | succ j => rw [insIn, if_neg (fun h => by omega)]
          have HI3 : Hid (dj = insIn cf a ki dk) := by rw [h5] at HI; exact HI
          clear h5
          go_roundg (b - (ki + 1))
          case measure => omega
          case rel =>
            refine ⟨ki + 1, n - 1, dj, by first | rfl | go_num, by omega, by omega, by omega, HLj.out, HBj.out, HOj.out.drewN _, HDj, ?_⟩
            have h6 := HR.out
            obtain ⟨n', rfl⟩ : ∃ n', n = n' + 1 := ⟨n - 1, by omega⟩
            rw [insOut, ← HI3.out] at h6
            exact h6
    · go_wp2_with fail
      go_end0
      obtain rfl : n = 0 := by omega
      have h6 := HR.out
      exact ⟨rfl, h6 ▸ HB.out, HO.out⟩
end Go.Proofs.Ytfinbkpmkgpffaa
