/- The pool's functions that look, or turn one page or one number, walked. Conditions: the pool lies in memory as 'PoolAt' says. -/
import Derived.Test.YtelmolblcnolnaaPoolWalk
namespace Go.Proofs.Ytelmolblcnolnaa
open Go.RowKit
theorem ret_str {a b : ByteArray} (h : a = b) : Ending.returned (.string a) = .returned (.string b) := by rw [h]

section
variable {w : World} {b bq : Nat} {s : Pl}

set_option maxHeartbeats 400000 in
theorem owners_any (h : PoolAt w b bq s) (hl : s.pages.length ≤ 256) (n : Int) :
    Calls Try.prog 24 #[.pointer (some ⟨b, 0, none⟩), .int .i64 n] w fun e w' => e = .returned (.int .i64 (s.owners n)) ∧ w = w' := by
  by_cases ho : (s.page n).own = 0
  · have Hf := hid_ (find_none h hl n ho)
    have Ho := hid_ ho
    clear h ho
    go_enter Try.func24, Try.ntmps24
    go_wp2_with (go_at_call 63; refine (Hf.out).mono ?_; rintro e w' ⟨rfl, rfl⟩)
    go_ret
    exact ⟨ret_int Ho.out.symm, rfl⟩
  · obtain ⟨i, hi, hlt, hp⟩ := pl_used ho
    have c1 := PoolMem.cown h hp
    have Hf := hid_ (find_some h hl n i hi hp ho)
    clear h ho hi hp
    go_enter Try.func24, Try.ntmps24
    go_wp2_with (go_at_call 63; refine (Hf.out).mono ?_; rintro e w' ⟨rfl, rfl⟩)
    go_ret
    exact ⟨rfl, rfl⟩

set_option maxHeartbeats 400000 in
theorem tag_any (h : PoolAt w b bq s) (hl : s.pages.length ≤ 256) (n : Int) :
    Calls Try.prog 25 #[.pointer (some ⟨b, 0, none⟩), .int .i64 n] w fun e w' => e = .returned (.string (s.tagOf n)) ∧ w = w' := by
  by_cases ho : (s.page n).own = 0
  · have Hf := hid_ (find_none h hl n ho)
    have Ho := hid_ ho
    clear h ho
    go_enter Try.func25, Try.ntmps25
    go_wp2_with (go_at_call 63; refine (Hf.out).mono ?_; rintro e w' ⟨rfl, rfl⟩)
    go_ret
    exact ⟨ret_str (by unfold Pl.tagOf; rw [if_pos Ho.out]), rfl⟩
  · obtain ⟨i, hi, hlt, hp⟩ := pl_used ho
    have c1 := PoolMem.ctag h hp
    have Hf := hid_ (find_some h hl n i hi hp ho)
    have Ho := hid_ ho
    clear h ho hi hp
    go_enter Try.func25, Try.ntmps25
    go_wp2_with (go_at_call 63; refine (Hf.out).mono ?_; rintro e w' ⟨rfl, rfl⟩)
    go_ret
    exact ⟨ret_str (by unfold Pl.tagOf; rw [if_neg Ho.out]), rfl⟩

set_option maxHeartbeats 400000 in
theorem cell_no (h : PoolAt w b bq s) (hl : s.pages.length ≤ 256) (n c : Int) (hc : s.cellE n c ≠ 0) :
    Calls Try.prog 67 #[.pointer (some ⟨b, 0, none⟩), .int .i64 n, .int .i64 c] w fun e w' => e = .returned (.tuple #[.pointer none, .int .i64 (s.cellE n c)]) ∧ w = w' := by
  by_cases ho : (s.page n).own = 0
  · have Hf := hid_ (find_none h hl n ho)
    have He : Hid (s.cellE n c = 25) := by unfold Pl.cellE; rw [if_pos ho]; rfl
    clear h ho hc
    rw [He.out]
    go_enter Try.func67, Try.ntmps67
    go_wp2_with (go_at_call 63; refine (Hf.out).mono ?_; rintro e w' ⟨rfl, rfl⟩)
    go_ret2
    exact ⟨rfl, rfl⟩
  · obtain ⟨i, hi, hlt, hp⟩ := pl_used ho
    have Hf := hid_ (find_some h hl n i hi hp ho)
    have hcc : c < 0 ∨ 32 ≤ c := by
      unfold Pl.cellE at hc
      rw [if_neg ho] at hc
      by_cases hcc : c < 0 ∨ 32 ≤ c
      · exact hcc
      · rw [if_neg hcc] at hc; exact absurd rfl hc
    have He : Hid (s.cellE n c = 20) := by unfold Pl.cellE; rw [if_neg ho, if_pos hcc]; rfl
    clear h ho hc hi hp
    rw [He.out]
    rcases hcc with hcc | hcc
    · go_enter Try.func67, Try.ntmps67
      go_wp2_with (go_at_call 63; refine (Hf.out).mono ?_; rintro e w' ⟨rfl, rfl⟩)
      go_ret2
      exact ⟨rfl, rfl⟩
    · go_enter Try.func67, Try.ntmps67
      go_wp2_with (go_at_call 63; refine (Hf.out).mono ?_; rintro e w' ⟨rfl, rfl⟩)
      go_ret2
      exact ⟨rfl, rfl⟩
theorem cellE_zero {n c : Int} (h : s.cellE n c = 0) : (s.page n).own ≠ 0 ∧ ∃ k : Nat, c = k ∧ k < 32 := by
  unfold Pl.cellE at h
  by_cases ho : (s.page n).own = 0
  · rw [if_pos ho] at h; cases h
  · rw [if_neg ho] at h
    by_cases hc : c < 0 ∨ 32 ≤ c
    · rw [if_pos hc] at h; cases h
    · obtain ⟨k, hk⟩ := Int.eq_ofNat_of_zero_le (show 0 ≤ c by omega)
      exact ⟨ho, k, hk, by omega⟩
set_option maxHeartbeats 400000 in
theorem cell_yes (h : PoolAt w b bq s) (hl : s.pages.length ≤ 256) (n : Int) (i k : Nat) (hi : n = i) (hp : s.pages[i]? = some (s.page n)) (ho : (s.page n).own ≠ 0) (hk : k < 32) :
    Calls Try.prog 67 #[.pointer (some ⟨b, 0, none⟩), .int .i64 n, .int .i64 (k : Int)] w fun e w' => e = .returned (.tuple #[.pointer (some ⟨bq, i * 34 + 2 + k, none⟩), .int .i64 0]) ∧ w = w' := by
  have Hf := hid_ (find_some h hl n i hi hp ho)
  clear h ho hi hp
  go_enter Try.func67, Try.ntmps67
  go_wp2_with (go_at_call 63; refine (Hf.out).mono ?_; rintro e w' ⟨rfl, rfl⟩)
  go_ret2
  exact ⟨rfl, rfl⟩

set_option maxHeartbeats 400000 in
theorem get_any (h : PoolAt w b bq s) (hl : s.pages.length ≤ 256) (n c : Int) :
    Calls Try.prog 27 #[.pointer (some ⟨b, 0, none⟩), .int .i64 n, .int .i64 c] w fun e w' => e = .returned (.tuple #[.int .i64 (s.get n c), .int .i64 (s.cellE n c)]) ∧ w = w' := by
  by_cases hc : s.cellE n c = 0
  · obtain ⟨ho, k, rfl, hk⟩ := cellE_zero hc
    obtain ⟨i, hi, hlt, hp⟩ := pl_used ho
    have c1 := PoolMem.cval h hp hk
    have Hf := hid_ (cell_yes h hl n i k hi hp ho hk)
    have Hv : Hid (s.get n k = (s.page n).cells.getD k 0) := by unfold Pl.get; rw [if_pos hc]; rfl
    rw [hc, Hv.out]
    generalize (s.page n).cells.getD k 0 = v at *
    clear h ho hi hp hc Hv
    go_enter Try.func27, Try.ntmps27
    go_wp2_with (go_at_call 67; refine (Hf.out).mono ?_; rintro e w' ⟨rfl, rfl⟩)
    go_ret2
    exact ⟨rfl, rfl⟩
  · have Hf := hid_ (cell_no h hl n c hc)
    have Hv : Hid (s.get n c = 0) := by unfold Pl.get; rw [if_neg hc]; rfl
    have hc' : ((s.cellE n c) == 0) = false := beq_eq_false_iff_ne.2 hc
    rw [Hv.out]
    generalize s.cellE n c = x at *
    clear h hc Hv
    go_enter Try.func27, Try.ntmps27
    go_wp2_with (go_at_call 67; refine (Hf.out).mono ?_; rintro e w' ⟨rfl, rfl⟩)
    go_ret2
    exact ⟨rfl, rfl⟩
end
end Go.Proofs.Ytelmolblcnolnaa
