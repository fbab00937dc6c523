/- The library's stable sort at a beam's candidates, walked. Conditions: the row is the whole block; the comparison turns nothing that was there, and answers by a plain function. -/
import Derived.Test.YtfinbkpmkgpffaaKSortWE
import Derived.Deep.DeepCutAuto
import Derived.Deep.CutBlock
namespace Go.Proofs.Ytfinbkpmkgpffaa
open Go.RowKit

set_option maxRecDepth 100000 in
set_option maxHeartbeats 6400000 in
theorem kstable_any {w : World} {blk c : Nat} {kt : KT} {d : List Int} {cf : Int → Int → Int} {dom : Int → Prop} (h00 : 0 < d.length → dom 0) (h : Blk w blk 73 (rowk kt d)) (hq : CmpK kt cf dom blk w) (hd : ∀ x ∈ d, dom x) (hm : d.length < 1152921504606846976) :
    Calls Try.prog 69 #[.slice (some ⟨blk, 0, none⟩) d.length c, .int .i64 (d.length : Nat), kcmpv] w (RowkPost kt w blk 73 (stab cf d)) := by
  have H := hid_ h
  have HQ := hid_ hq
  have HD := hid_ hd
  obtain ⟨n, hn⟩ : ∃ n, n = d.length := ⟨_, rfl⟩
  rw [← hn] at hm h00 ⊢
  have H00 := hid_ h00
  clear h00
  have HN := hid_ hn
  clear h hq hd hn
  unfold kcmpv
  go_enter Try.func69, Try.ntmps69
  go_wp2_with fail
  go_loopw [7, 8] (fun av bv wr => ∃ (f a : Nat) (dk : List Int), a ≤ n ∧ n + 1 ≤ f + a ∧ av = .int .i64 a ∧ bv = .int .i64 ((a + 20 : Nat) : Int) ∧ Blk wr blk 73 (rowk kt dk) ∧ Only blk w wr ∧ Hid (∀ x ∈ dk, dom x) ∧ Hid (dk.length = n) ∧ Hid (pass1 cf n f a dk = pass1 cf n (n + 1) 0 d)) (fun av _ _ => n - (intOf av).toNat)
  case atStart => exact ⟨n + 1, 0, d, by omega, by omega, rfl, rfl, H.out, Only.refl _ _, HD, HN.out.symm, rfl⟩
  case round =>
    obtain ⟨f, a, dk, han, hf, rfl, rfl, hB, hO, HDk, HL, HR⟩ := hrel
    have HB := hid_ hB
    have HO := hid_ hO
    clear hB hO
    obtain ⟨f', rfl⟩ : ∃ f', f = f' + 1 := ⟨f - 1, by omega⟩
    obtain ⟨b, hb⟩ : ∃ b, b = a + 20 := ⟨_, rfl⟩
    rw [← hb]
    by_cases hlt : b ≤ n
    · have hlt' : (b : Int) ≤ (n : Int) := by omega
      have hS := kinsertion_any (c := c) (a := a) (b := b) (kt := kt) HB.out (HQ.out.next HO.out) HDk.out (by rw [HL.out]; exact hm) (by omega) (by rw [HL.out]; exact hlt)
      rw [HL.out] at hS
      unfold kcmpv at hS
      have HS := hid_ hS
      have b1 : (b : Int) + 20 = ((b + 20 : Nat) : Int) := by omega
      have b2 : IntKind.i64.wrap ((b : Int) + 20) = (b : Int) + 20 := w64 (by omega) (by omega)
      have hR := HR.out
      rw [pass1, ← hb, if_pos hlt] at hR
      have HR2 := hid_ hR
      have HBB := hid_ hb
      clear hS hR hb b1
      go_wp2_with (go_at_call 79; refine HS.out.mono ?_; rintro e w1 ⟨rfl, hB1, hO1⟩; (have HB1 := hid_ hB1); (have HO1 := hid_ hO1); clear hB1 hO1)
      go_roundw
      case rel =>
        have hbb := HBB.out
        exact ⟨f', b, _, by omega, by omega, rfl, by go_num, HB1.out, HO.out.trans HO1.out, insOut_dom1 _ _ _ _ (fun h => H00.out (by have := HL.out; omega)) HDk.out, (insOut_length _ _ _ _ _).trans HL.out, HR2.out⟩
      case measure =>
        have hbb := HBB.out
        simp [intOf]; omega
    · have hlt' : ¬ (b : Int) ≤ (n : Int) := by omega
      have hS := kinsertion_any (c := c) (a := a) (b := n) (kt := kt) HB.out (HQ.out.next HO.out) HDk.out (by rw [HL.out]; exact hm) han (by rw [HL.out]; exact Nat.le_refl _)
      rw [HL.out] at hS
      unfold kcmpv at hS
      have HS := hid_ hS
      have hR := HR.out
      rw [pass1, ← hb, if_neg hlt] at hR
      have HDk2 : Hid (∀ x ∈ ins cf a n dk, dom x) := insOut_dom1 _ _ _ _ (fun h => H00.out (by have := HL.out; omega)) HDk.out
      have HL2 : Hid ((ins cf a n dk).length = n) := (insOut_length _ _ _ _ _).trans HL.out
      have HRES : Hid (stab cf d = outer cf n (n + 1) 20 (ins cf a n dk)) := by show _ = _; rw [stab, ← HN.out, hR]
      clear hS hR hb HR HDk HL
      go_wp2_with (go_at_call 79; refine HS.out.mono ?_; rintro e w1 ⟨rfl, hB1, hO1⟩; (have HB1 : Hid (Blk w1 blk 73 (rowk kt (ins cf a n dk))) := hB1); (have HO1 := hid_ (HO.out.trans hO1)); clear hB1 hO1 HS HB HO)
      generalize ins cf a n dk = d1 at *
      go_loopg [6] (n + 1) (fun g zv wr => ∃ (f z : Nat) (dk : List Int), f ≤ g ∧ 20 ≤ z ∧ z < 2305843009213693952 ∧ n + 1 ≤ f + z ∧ zv = .int .i64 z ∧ Blk wr blk 73 (rowk kt dk) ∧ Only blk w wr ∧ Hid (∀ x ∈ dk, dom x) ∧ Hid (dk.length = n) ∧ Hid (outer cf n f z dk = stab cf d))
      case atStart => exact ⟨n + 1, 20, d1, Nat.le_refl _, by omega, by omega, by omega, rfl, HB1.out, HO1.out, HDk2, HL2, HRES.out.symm⟩
      case round => 
        obtain ⟨f, z, dk, hfg, hz, hz9, hgz, rfl, hB, hO, HDk, HL, HR⟩ := hrel
        have HB := hid_ hB
        have HO := hid_ hO
        clear hB hO HB1 HO1 HDk2 HL2 HRES
        by_cases hzn : z < n
        · have hzn' : (z : Int) < (n : Int) := by omega
          obtain ⟨f', rfl⟩ : ∃ f', f = f' + 1 := ⟨f - 1, by omega⟩
          have hR := HR.out
          rw [outer, if_pos hzn] at hR
          have HR2 := hid_ hR
          obtain ⟨y, hy⟩ : ∃ y : Nat, y = 2 * z := ⟨_, rfl⟩
          have y1 : 2 * (z : Int) = (y : Int) := by omega
          have y2 : IntKind.i64.wrap (2 * (z : Int)) = (y : Int) := by rw [y1]; exact w64 (by omega) (by omega)
          have y3 : (z : Int) * 2 = (y : Int) := by omega
          have y4 : IntKind.i64.wrap ((z : Int) * 2) = (y : Int) := by rw [y3]; exact w64 (by omega) (by omega)
          have y5 : y < 2305843009213693952 := by omega
          rw [← hy] at HR2
          have HY := hid_ hy
          clear hR HR hy
          go_wp2_with fail
          go_loopg [7, 8] (n + 1) (fun g2 av bv wr => ∃ (h a : Nat) (dj : List Int), h ≤ g2 ∧ a ≤ n ∧ n + 1 ≤ h + a ∧ av = .int .i64 a ∧ bv = .int .i64 ((a + y : Nat) : Int) ∧ Blk wr blk 73 (rowk kt dj) ∧ Only blk w wr ∧ Hid (∀ x ∈ dj, dom x) ∧ Hid (dj.length = n) ∧ Hid (pass2 cf n z h a dj = pass2 cf n z (n + 1) 0 dk))
          case atStart => exact ⟨n + 1, 0, dk, Nat.le_refl _, Nat.zero_le _, by omega, rfl, by rw [Nat.zero_add], HB.out, HO.out, HDk, HL, rfl⟩
          case round =>
            obtain ⟨h, a, dj, hhg, han, hha, rfl, rfl, hB2, hO2, HDj, HLj, HI⟩ := hrel
            have HB2 := hid_ hB2
            have HO2 := hid_ hO2
            clear hB2 hO2
            obtain ⟨h', rfl⟩ : ∃ h', h = h' + 1 := ⟨h - 1, by omega⟩
            obtain ⟨b, hb⟩ : ∃ b, b = a + y := ⟨_, rfl⟩
            rw [← hb]
            obtain ⟨m, hmm⟩ : ∃ m, m = a + z := ⟨_, rfl⟩
            have hyz := HY.out
            have m1 : (a : Int) + z = (m : Int) := by omega
            have m2 : IntKind.i64.wrap ((a : Int) + z) = (m : Int) := by rw [m1]; exact w64 (by omega) (by omega)
            have hI := HI.out
            rw [pass2, ← hyz, ← hb, ← hmm] at hI
            by_cases hlt : b ≤ n
            · have hlt' : (b : Int) ≤ (n : Int) := by omega
              rw [if_pos hlt] at hI
              have HI2 := hid_ hI
              have hS := ksymMerge_any (H00.out (by omega)) n (c := c) (a := a) (m := m) (b := b) (kt := kt) HB2.out (HQ.out.next HO2.out) HDj.out (by rw [HLj.out]; exact hm) (by omega) (by omega) (by rw [HLj.out]; exact hlt) (by omega)
              rw [HLj.out] at hS
              unfold kcmpv at hS
              have HS := hid_ hS
              have b2 : IntKind.i64.wrap ((b : Int) + y) = (b : Int) + y := w64 (by omega) (by omega)
              have HBB := hid_ hb
              clear hS hI hb hmm hyz
              go_wp2_with (go_at_call 80; refine HS.out.mono ?_; rintro e w1 ⟨rfl, hB1, hO1⟩; (have HB1 := hid_ hB1); (have HO1 := hid_ hO1); clear hB1 hO1)
              go_roundg h'
              case rel =>
                have hbb := HBB.out
                have hyy := HY.out
                exact ⟨h', b, _, Nat.le_refl _, by omega, by omega, rfl, by go_num, HB1.out, HO2.out.trans HO1.out, symM_dom (H00.out (by omega)) _ _ _ _ _ HDj.out, (symM_length _ _ _ _ _ _).trans HLj.out, HI2.out⟩
              case measure => omega
            · have hlt' : ¬ (b : Int) ≤ (n : Int) := by omega
              rw [if_neg hlt] at hI
              by_cases hmn : m < n
              · have hmn' : (m : Int) < (n : Int) := by omega
                rw [if_pos hmn] at hI
                have HI2 := hid_ hI
                have hS := ksymMerge_any (H00.out (by omega)) n (c := c) (a := a) (m := m) (b := n) (kt := kt) HB2.out (HQ.out.next HO2.out) HDj.out (by rw [HLj.out]; exact hm) (by omega) hmn (by rw [HLj.out]; exact Nat.le_refl _) (by omega)
                rw [HLj.out] at hS
                unfold kcmpv at hS
                have HS := hid_ hS
                clear hS hI hb hmm hyz
                go_wp2_with (go_at_call 80; refine HS.out.mono ?_; rintro e w1 ⟨rfl, hB1, hO1⟩; (have HB1 := hid_ hB1); (have HO1 := hid_ hO1); clear hB1 hO1)
                go_roundg f'
                case rel =>
                  have hyy := HY.out
                  exact ⟨f', y, _, Nat.le_refl _, by omega, y5, by omega, rfl, HB1.out, HO2.out.trans HO1.out, symM_dom (H00.out (by omega)) _ _ _ _ _ HDj.out, (symM_length _ _ _ _ _ _).trans HLj.out, by have h6 := HR2.out; rw [← HI2.out] at h6; exact h6⟩
                case measure => omega
              · have hmn' : ¬ (m : Int) < (n : Int) := by omega
                rw [if_neg hmn] at hI
                have HI2 := hid_ hI
                clear hI hb hmm hyz
                go_wp2_with fail
                go_roundg f'
                case rel =>
                  have hyy := HY.out
                  exact ⟨f', y, _, Nat.le_refl _, by omega, y5, by omega, rfl, HB2.out, HO2.out, HDj, HLj, by have h6 := HR2.out; rw [← HI2.out] at h6; exact h6⟩
                case measure => omega
        · have hzn' : ¬ (z : Int) < (n : Int) := by omega
          go_wp2_with fail
          go_end0
          have h6 := HR.out
          cases f with
          | zero => exact ⟨rfl, by rw [outer] at h6; exact h6 ▸ HB.out, HO.out⟩
          | succ f =>
            rw [outer, if_neg hzn] at h6
            exact ⟨rfl, h6 ▸ HB.out, HO.out⟩
end Go.Proofs.Ytfinbkpmkgpffaa
