/- The pool's functions, walked: each comes to what the plain data says. Conditions: the pool lies in memory as 'PoolMem' says. -/
import Derived.Test.YtelmolblcnolnaaPoolMem
namespace Go.Proofs.Ytelmolblcnolnaa
open Go.RowKit

theorem ret_int {k : IntKind} {a b : Int} (h : a = b) : Ending.returned (.int k a) = .returned (.int k b) := by rw [h]
theorem pl_page_nat (s : Pl) (i : Nat) : s.page (i : Int) = s.pages.getD i Pg.zero := by
  unfold Pl.page
  rw [if_pos (by omega)]
  rfl
theorem pl_page_get {s : Pl} {i : Nat} (h : i < s.pages.length) : s.pages[i]? = some (s.page (i : Int)) := by
  rw [pl_page_nat, List.getD_eq_getElem?_getD, List.getElem?_eq_getElem h]
  rfl
theorem pl_page_out {s : Pl} {i : Nat} (h : s.pages.length ≤ i) : s.page (i : Int) = Pg.zero := by
  rw [pl_page_nat, List.getD_eq_getElem?_getD, List.getElem?_eq_none h]
  rfl
/-- A page that is not free is there. -/
theorem pl_used {s : Pl} {n : Int} (h : (s.page n).own ≠ 0) : ∃ i : Nat, n = i ∧ i < s.pages.length ∧ s.pages[i]? = some (s.page n) := by
  by_cases h0 : 0 ≤ n
  · obtain ⟨i, rfl⟩ := Int.eq_ofNat_of_zero_le h0
    rcases Nat.lt_or_ge i s.pages.length with hl | hl
    · exact ⟨i, rfl, hl, pl_page_get hl⟩
    · rw [pl_page_out hl] at h
      exact absurd rfl h
  · exact absurd (by unfold Pl.page; rw [if_neg h0]; rfl) h

section
variable {w : World} {b bq : Nat} {s : Pl}

set_option maxHeartbeats 400000 in
theorem find_some (h : PoolAt w b bq s) (_hl : s.pages.length ≤ 256) (n : Int) (i : Nat) (hi : n = i) (hp : s.pages[i]? = some (s.page n)) (ho : (s.page n).own ≠ 0) :
    Calls Try.prog 63 #[.pointer (some ⟨b, 0, none⟩), .int .i64 n] w fun e w' => e = .returned (.pointer (some ⟨bq, i * 34, none⟩)) ∧ w = w' := by
  subst hi
  have c0 := PoolMem.c0 h
  have c1 := PoolMem.cown h hp
  have hlt : i < s.pages.length := (List.getElem?_eq_some_iff.1 hp).1
  have hb : ((s.page i).own == 0) = false := beq_eq_false_iff_ne.2 ho
  generalize (s.page i).own = o at *
  generalize s.pages.length = m at *
  clear h hp ho
  go_enter Try.func63, Try.ntmps63
  go_wp2_with fail
  go_ret
  exact ⟨rfl, rfl⟩

set_option maxHeartbeats 400000 in
theorem find_none (h : PoolAt w b bq s) (_hl : s.pages.length ≤ 256) (n : Int) (ho : (s.page n).own = 0) :
    Calls Try.prog 63 #[.pointer (some ⟨b, 0, none⟩), .int .i64 n] w fun e w' => e = .returned (.pointer none) ∧ w = w' := by
  have c0 := PoolMem.c0 h
  by_cases h0 : n < 0
  · go_enter Try.func63, Try.ntmps63
    go_wp2_with fail
    go_ret
    exact ⟨rfl, rfl⟩
  · obtain ⟨i, rfl⟩ := Int.eq_ofNat_of_zero_le (Int.not_lt.1 h0)
    rcases Nat.lt_or_ge i s.pages.length with hlt | hge
    · have c1 := PoolMem.cown h (pl_page_get hlt)
      rw [ho] at c1
      clear ho h
      generalize s.pages.length = m at *
      go_enter Try.func63, Try.ntmps63
      go_wp2_with fail
      go_ret
      exact ⟨rfl, rfl⟩
    · clear ho h
      generalize s.pages.length = m at *
      go_enter Try.func63, Try.ntmps63
      go_wp2_with fail
      go_ret
      exact ⟨rfl, rfl⟩

set_option maxHeartbeats 400000 in
theorem ask_any (tag : ByteArray) (k o : Int) (w : World) :
    Calls Try.prog 64 #[.string tag, .int .i64 k, .int .i64 o] w fun e w' => e = .returned (.int .i64 (Pl.ask tag k o)) ∧ w = w' := by
  go_enter Try.func64, Try.ntmps64
  go_wp2_with fail
  all_goals
    go_ret
    refine ⟨ret_int ?_, rfl⟩
    unfold Pl.ask
    rw [← ByteArray.toList_eq]
  · rw [if_pos (.inl ‹_›)]
  · rw [if_pos (.inr (by rename_i h1 h2; rcases h2 with h2 | h2 <;> simp_all))]
  · rename_i h1 h2 h3
    rw [if_neg (fun h => h.elim h1 (by omega)), if_pos h3]
  · rename_i h1 h2 h3
    rw [if_neg (fun h => h.elim h1 (by omega)), if_neg (by omega)]

set_option maxHeartbeats 400000 in
theorem hand_any (h : PoolAt w b bq s) {c : Int} (hk : s.Ok c) :
    Calls Try.prog 65 #[.pointer (some ⟨b, 0, none⟩)] w fun e w' => e = .returned (.int .i64 (s.free - s.aside)) ∧ ∃ n, w' = w.drewN n := by
  have c1 := PoolMem.c1 h
  have c2 := PoolMem.c2 h
  have a0 := hk.a0
  have a1 := hk.a1
  have hf : s.free ≤ 256 := by
    have := freeIx_len_le s.pages s.pages.length
    have := hk.len
    unfold Pl.free
    omega
  clear h hk
  generalize s.free = f at *
  generalize s.aside = a at *
  go_enter Try.func65, Try.ntmps65
  go_wp2_with fail
  go_quiet (fail)
  go_wp2_with fail
  go_ret
  exact ⟨rfl, _, rfl⟩
end
end Go.Proofs.Ytelmolblcnolnaa
