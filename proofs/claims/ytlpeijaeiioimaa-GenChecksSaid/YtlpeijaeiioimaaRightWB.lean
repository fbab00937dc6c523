/- Whether what is asked is right, walked: the document's. Conditions: the prompt reads as the tokens; the heat's word has 64 bits; the vocabulary lies between 2 and 16. -/
import Derived.Test.YtlpeijaeiioimaaRightW
namespace Go.Proofs.Ytlpeijaeiioimaa
open Go.RowKit

theorem notNaN (x : Nat) : (FloatKind.f64.format.order x x == some .eq) = (fixE x == 0) := by
  unfold fixE isNaNB
  cases h : (FloatKind.f64.format.order x x == some .eq) with
  | true => rw [bne, h]; rfl
  | false => rw [bne, h]; rfl
set_option maxRecDepth 100000 in
set_option maxHeartbeats 6400000 in
theorem rright_walk {w : World} {B : Nat} {A : Option Addr} {n c : Nat} {xs : List Int} (hx : RdI w B .i64 (.slice A n c) xs) {d h L V hd e k wd kind len stop seed topk beams pen : Int} {x : Nat} :
    Calls Try.prog 48 #[.agg #[.int .i64 d, .int .i64 h, .int .i64 L, .int .i64 V, .int .i64 hd, .int .i64 e, .int .i64 k, .int .i64 wd], .agg #[.int .i64 kind, .slice A n c, .int .i64 len, .int .i64 stop, .int .u64 seed, .int .i64 topk, .float .f64 x, .int .i64 beams, .int .i64 pen]] w
      (BoolPost w (rightP V kind xs len stop topk (fixE x) beams pen)) := by
  have hl := (rdi_len hx).1
  have hmx := (rdi_len hx).2.2
  unfold maxLen at hmx
  have HB0 : Hid (Below w.heap.size w ((w.alloc (.cells #[.int .i64 d, .int .i64 h, .int .i64 L, .int .i64 V, .int .i64 hd, .int .i64 e, .int .i64 k, .int .i64 wd] 30)).alloc (.cells #[.int .i64 kind, .slice A n c, .int .i64 len, .int .i64 stop, .int .u64 seed, .int .i64 topk, .float .f64 x, .int .i64 beams, .int .i64 pen] 35))) :=
    below_comp (below_alloc0 w _) (below_alloc0 _ _)
  have HR0 := hid_ (rdi_below hx HB0.out)
  have b1 := (Blk.new w 30 #[.int .i64 d, .int .i64 h, .int .i64 L, .int .i64 V, .int .i64 hd, .int .i64 e, .int .i64 k, .int .i64 wd]).alloc (.cells #[.int .i64 kind, .slice A n c, .int .i64 len, .int .i64 stop, .int .u64 seed, .int .i64 topk, .float .f64 x, .int .i64 beams, .int .i64 pen] 35)
  have b2 := Blk.new (w.alloc (.cells #[.int .i64 d, .int .i64 h, .int .i64 L, .int .i64 V, .int .i64 hd, .int .i64 e, .int .i64 k, .int .i64 wd] 30)) 35 #[.int .i64 kind, .slice A n c, .int .i64 len, .int .i64 stop, .int .u64 seed, .int .i64 topk, .float .f64 x, .int .i64 beams, .int .i64 pen]
  rw [World.size_alloc] at b2
  have HB1 := hid_ b1
  have HB2 := hid_ b2
  clear hx b1 b2
  by_cases h0 : kind < 1 ∨ 4 < kind ∨ n = 0
  · have hF : rightP V kind xs len stop topk (fixE x) beams pen = false := by
      rcases h0 with h0 | h0 | h0
      · rw [rightP, if_neg (by omega), if_neg (by omega), if_neg (by omega), beq_eq_false_iff_ne.2 (show kind ≠ 4 by omega), Bool.and_false, Bool.and_false]
      · rw [rightP, if_neg (by omega), if_neg (by omega), if_neg (by omega), beq_eq_false_iff_ne.2 (show kind ≠ 4 by omega), Bool.and_false, Bool.and_false]
      · rw [rightP, List.length_eq_zero_iff.1 (by omega : xs.length = 0)]; rfl
    rw [hF]
    have hg : kind < 1 ∨ (¬ kind < 1 ∧ 4 < kind) ∨ (¬ kind < 1 ∧ ¬ 4 < kind ∧ ((n : Int) == 0) = true) := by
      rcases Int.lt_or_le kind 1 with h1 | h1
      · exact .inl h1
      · rcases Int.lt_or_le 4 kind with h2 | h2
        · exact .inr (.inl ⟨by omega, h2⟩)
        · exact .inr (.inr ⟨by omega, by omega, beq_iff_eq.2 (by omega)⟩)
    clear h0 hF
    rcases hg with g1 | ⟨g1, g2⟩ | ⟨g1, g2, g3⟩ <;>
    · go_enter Try.func48, Try.ntmps48
      go_wp2_with fail
      go_ret
      exact ⟨rfl, HB0.out⟩
  have g1 : ¬ kind < 1 := by omega
  have g2 : ¬ 4 < kind := by omega
  have g3 : ((n : Int) == 0) = false := beq_eq_false_iff_ne.2 (by omega)
  have hne : xs.isEmpty = false := by cases xs with
    | nil => exact absurd hl.symm (by simp; omega)
    | cons => rfl
  go_enter Try.func48, Try.ntmps48
  go_wp2_with fail
  obtain ⟨wA, hwA⟩ : ∃ wA, (w.alloc (.cells #[.int .i64 d, .int .i64 h, .int .i64 L, .int .i64 V, .int .i64 hd, .int .i64 e, .int .i64 k, .int .i64 wd] 30)).alloc (.cells #[.int .i64 kind, .slice A n c, .int .i64 len, .int .i64 stop, .int .u64 seed, .int .i64 topk, .float .f64 x, .int .i64 beams, .int .i64 pen] 35) = wA := ⟨_, rfl⟩
  rw [hwA] at HB0 HR0 HB1 HB2 ⊢
  clear hwA
  go_loopw [5] (fun iv wr => ∃ i : Nat, i ≤ n ∧ iv = .int .i64 i ∧ Hid ((xs.take i).all (fun t => inB t 0 (V - 1)) = true) ∧ Hid (∃ m, wr = wA.drewN m)) (fun iv _ => n - (intOf iv).toNat)
  case atStart => exact ⟨0, Nat.zero_le _, rfl, rfl, hid_ ⟨0, rfl⟩⟩
  case round =>
    obtain ⟨i, hi, rfl, HA, HM⟩ := hrel
    have HBw : Hid (Below w.heap.size w wr) := by obtain ⟨m, rfl⟩ := HM.out; exact below_drewN HB0.out _
    have HR := hid_ (rdi_drawn HR0.out HM.out)
    have c3 : wr.cell? ⟨w.heap.size, 3, none⟩ = some (.int .i64 V) := by obtain ⟨m, rfl⟩ := HM.out; exact (HB1.out.cell 3).trans rfl
    have a0 : wr.cell? ⟨w.heap.size + 1, 0, none⟩ = some (.int .i64 kind) := by obtain ⟨m, rfl⟩ := HM.out; exact (HB2.out.cell 0).trans rfl
    have a1 : wr.cell? ⟨w.heap.size + 1, 1, none⟩ = some (.slice A n c) := by obtain ⟨m, rfl⟩ := HM.out; exact (HB2.out.cell 1).trans rfl
    have a2 : wr.cell? ⟨w.heap.size + 1, 2, none⟩ = some (.int .i64 len) := by obtain ⟨m, rfl⟩ := HM.out; exact (HB2.out.cell 2).trans rfl
    have a3 : wr.cell? ⟨w.heap.size + 1, 3, none⟩ = some (.int .i64 stop) := by obtain ⟨m, rfl⟩ := HM.out; exact (HB2.out.cell 3).trans rfl
    have a5 : wr.cell? ⟨w.heap.size + 1, 5, none⟩ = some (.int .i64 topk) := by obtain ⟨m, rfl⟩ := HM.out; exact (HB2.out.cell 5).trans rfl
    have a6 : wr.cell? ⟨w.heap.size + 1, 6, none⟩ = some (.float .f64 x) := by obtain ⟨m, rfl⟩ := HM.out; exact (HB2.out.cell 6).trans rfl
    have a7 : wr.cell? ⟨w.heap.size + 1, 7, none⟩ = some (.int .i64 beams) := by obtain ⟨m, rfl⟩ := HM.out; exact (HB2.out.cell 7).trans rfl
    have a8 : wr.cell? ⟨w.heap.size + 1, 8, none⟩ = some (.int .i64 pen) := by obtain ⟨m, rfl⟩ := HM.out; exact (HB2.out.cell 8).trans rfl
    by_cases hlt : i < n
    · have hlt' : (i : Int) < (n : Int) := by omega
      obtain ⟨b, o, rfl, d1⟩ := rdi_cell HR.out (j := i) (by rw [hl]; exact hlt)
      have htk := take_snoc9 xs (k := i) (by rw [hl]; exact hlt)
      clear a0 a2 a3 a5 a6 a7 a8
      generalize xs.getD i 0 = t at *
      by_cases ht : 0 ≤ t ∧ t < V
      · have t1 : ¬ t < 0 := by omega
        have t2 : ¬ V ≤ t := by omega
        have t3 : decide (t < 0) = false := decide_eq_false t1
        have t4 : decide (V ≤ t) = false := decide_eq_false t2
        have tin : inB t 0 (V - 1) = true := inB_iff.2 (by omega)
        have HA2 : Hid ((xs.take (i + 1)).all (fun t => inB t 0 (V - 1)) = true) := by show _ = true; rw [htk, List.all_append, HA.out]; simp [tin]
        clear htk ht tin
        go_wp2_with fail
        go_quiet (fail)
        go_wp2_with fail
        go_roundw
        case rel => exact ⟨i + 1, by omega, by go_num, HA2, hid_ (by obtain ⟨m, rfl⟩ := HM.out; exact ⟨_, World.drewN_drewN _ _ _⟩)⟩
        case measure => simp [intOf]; omega
      · have tin : inB t 0 (V - 1) = false := by
          cases hb : inB t 0 (V - 1) with
          | false => rfl
          | true => have := inB_iff.1 hb; omega
        have hall : xs.all (fun t => inB t 0 (V - 1)) = false := by
          have e : xs = xs.take (i + 1) ++ xs.drop (i + 1) := (List.take_append_drop _ _).symm
          rw [e, htk, List.all_append, List.all_append]
          simp [tin]
        have HRP : Hid (rightP V kind xs len stop topk (fixE x) beams pen = false) := by show _ = _; rw [rightP, hall, Bool.false_and, Bool.and_false]
        have hs : (decide (t < 0) = true ∧ t < 0) ∨ (decide (t < 0) = false ∧ ¬ t < 0 ∧ decide (V ≤ t) = true ∧ V ≤ t) := by
          rcases Int.lt_or_le t 0 with h1 | h1
          · exact .inl ⟨decide_eq_true h1, h1⟩
          · exact .inr ⟨decide_eq_false (by omega), by omega, decide_eq_true (by omega), by omega⟩
        clear htk ht tin hall
        rcases hs with ⟨t1, t2⟩ | ⟨t1, t2, t3, t4⟩ <;>
        · go_wp2_with fail
          go_quiet (fail)
          go_wp2_with fail
          go_ret
          exact ⟨by rw [HRP.out]; rfl, below_drewN HBw.out _⟩
    · obtain rfl : i = n := by omega
      have hall : xs.all (fun t => inB t 0 (V - 1)) = true := by
        have := HA.out
        rwa [List.take_of_length_le (by omega)] at this
      have HRP : Hid (rightP V kind xs len stop topk (fixE x) beams pen = (if kind = 2 then (inB topk 1 V && (fixE x == 0)) && (decide (1 ≤ len) && decide (stop < V)) else if kind = 1 then decide (1 ≤ len) && decide (stop < V)
        else if kind = 3 then inB beams 1 4 && (inB pen 0 64 && (decide (1 ≤ len) && decide (stop < V))) else (kind == 4))) := by
        show _ = _
        rw [rightP, hall, hne]
        rfl
      have hnn : (FloatKind.f64.format.order x x == some .eq) = (fixE x == 0) := notNaN x
      clear hall HA hl hne hlt hi HR HR0 HB1 HB2 HM HB0
      generalize fixE x = fe at *
      by_cases k4 : kind = 4
      · subst k4
        go_wp2_with fail
        go_ret
        exact ⟨by rw [HRP.out]; rfl, HBw.out⟩
      have k4' : (kind == 4) = false := beq_eq_false_iff_ne.2 k4
      by_cases k2 : kind = 2
      · subst k2
        go_wp2_with fail
        all_goals go_ret
        all_goals exact ⟨by rw [HRP.out]; simp [inB, *] <;> (first | omega | exact hnn), HBw.out⟩
      have k2' : (kind == 2) = false := beq_eq_false_iff_ne.2 k2
      by_cases k3 : kind = 3
      · subst k3
        go_wp2_with fail
        all_goals go_ret
        all_goals exact ⟨by rw [HRP.out]; simp [inB, *] <;> (first | omega | exact hnn), HBw.out⟩
      have k3' : (kind == 3) = false := beq_eq_false_iff_ne.2 k3
      obtain rfl : kind = 1 := by omega
      go_wp2_with fail
      all_goals go_ret
      all_goals exact ⟨by rw [HRP.out]; simp [*] <;> omega, HBw.out⟩
end Go.Proofs.Ytlpeijaeiioimaa
