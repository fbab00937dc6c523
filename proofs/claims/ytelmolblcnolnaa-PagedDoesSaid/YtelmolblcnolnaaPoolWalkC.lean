/- The pool's functions that turn one page or one number, walked. Conditions: the pool lies in memory as 'PoolAt' says, and is sound ('Pl.Ok'). -/
import Derived.Test.YtelmolblcnolnaaPoolWalkB
import Derived.Test.YtelmolblcnolnaaPoolFacts
namespace Go.Proofs.Ytelmolblcnolnaa
open Go.RowKit

section
variable {w : World} {b bq : Nat} {s : Pl}
theorem pS_b {b bq : Nat} : pS b bq b := .inl rfl
theorem pS_q {b bq : Nat} : pS b bq bq := .inr rfl

theorem upd_q {a : World} (h : Upd (pS b bq) a w) (o : Nat) (u : Value) : Upd (pS b bq) a (w.setCell ⟨bq, o, none⟩ u) := h.setCell (.inl pS_q) u
theorem upd_b {a : World} (h : Upd (pS b bq) a w) (o : Nat) (u : Value) : Upd (pS b bq) a (w.setCell ⟨b, o, none⟩ u) := h.setCell (.inl pS_b) u
theorem upd_qs {a : World} (h : Upd (pS b bq) a w) (o : Nat) (us : List Value) : Upd (pS b bq) a (w.setCells bq o us) := Upd.setCells (.inl pS_q) us o h
theorem setPg_at {s : Pl} {n : Int} {i : Nat} (hi : n = i) (p : Pg) : (s.setPg n p).pages = s.pages.set i p := by
  subst hi; rfl

set_option maxHeartbeats 400000 in
theorem put_any (h : PoolAt w b bq s) (hl : s.pages.length ≤ 256) (n c v : Int) :
    Calls Try.prog 26 #[.pointer (some ⟨b, 0, none⟩), .int .i64 n, .int .i64 c, .int .i64 v] w fun e w' =>
      e = .returned (.int .i64 (s.cellE n c)) ∧ PoolAt w' b bq (s.putS n c v) ∧ Upd (pS b bq) w w' := by
  by_cases hc : s.cellE n c = 0
  · obtain ⟨ho, k, rfl, hk⟩ := cellE_zero hc
    obtain ⟨i, hi, hlt, hp⟩ := pl_used ho
    have c1 := PoolMem.cval h hp hk
    have f1 := PoolMem.fq h (i * 34 + 2 + k)
    have Hf := hid_ (cell_yes h hl n i k hi hp ho hk)
    have Hm := hid_ (PoolMem.setVal h hp hk v)
    have Hs : Hid (s.putS n k v = s.setPg n { s.page n with cells := (s.page n).cells.set k v }) := by unfold Hid Pl.putS; rw [if_pos hc]; rfl
    have Hfr : Hid ((s.setPg n { s.page n with cells := (s.page n).cells.set k v }).free = s.free) := Pl.free_setPg_same ho ho
    have Hi := hid_ hi
    rw [hc, Hs.out]
    generalize (s.page n).cells.getD k 0 = v0 at *
    clear h ho hi hp hc Hs
    go_enter Try.func26, Try.ntmps26
    go_wp2_with (go_at_call 67; refine (Hf.out).mono ?_; rintro e w' ⟨rfl, rfl⟩)
    go_ret
    refine ⟨rfl, ?_, upd_q (Upd.refl _ _) _ _⟩
    unfold PoolAt
    rw [Hfr.out, setPg_at Hi.out]
    exact Hm.out
  · have Hf := hid_ (cell_no h hl n c hc)
    have Hs : Hid (s.putS n c v = s) := by unfold Hid Pl.putS; rw [if_neg hc]
    have Hh := hid_ h
    have hc' : ((s.cellE n c) == 0) = false := beq_eq_false_iff_ne.2 hc
    rw [Hs.out]
    generalize s.cellE n c = x at *
    clear h hc Hs
    go_enter Try.func26, Try.ntmps26
    go_wp2_with (go_at_call 67; refine (Hf.out).mono ?_; rintro e w' ⟨rfl, rfl⟩)
    go_ret
    exact ⟨rfl, Hh.out, Upd.refl _ _⟩

set_option maxHeartbeats 400000 in
theorem share_any (h : PoolAt w b bq s) {c : Int} (hk : s.Ok c) (hc : c < 9223372036854775807) (n : Int) :
    Calls Try.prog 22 #[.pointer (some ⟨b, 0, none⟩), .int .i64 n] w fun e w' =>
      e = .returned (.int .i64 (s.noneE n)) ∧ PoolAt w' b bq (s.shareS n) ∧ Upd (pS b bq) w w' := by
  by_cases ho : (s.page n).own = 0
  · have Hf := hid_ (find_none h hk.len n ho)
    have Hs : Hid (s.shareS n = s) := by unfold Hid Pl.shareS; rw [if_pos ho]
    have Hn : Hid (s.noneE n = 25) := by unfold Hid Pl.noneE; rw [if_pos ho]
    have Hh := hid_ h
    rw [Hs.out, Hn.out]
    clear h ho Hs Hn hk
    go_enter Try.func22, Try.ntmps22
    go_wp2_with (go_at_call 63; refine (Hf.out).mono ?_; rintro e w' ⟨rfl, rfl⟩)
    go_ret
    exact ⟨rfl, Hh.out, Upd.refl _ _⟩
  · obtain ⟨i, hi, hlt, hp⟩ := pl_used ho
    have hm := (Pl.page_mem ho).2.2.1
    obtain ⟨g0, g1⟩ := hk.own _ hm
    have c1 := PoolMem.cown h hp
    have f1 := PoolMem.fq h (i * 34 + 1)
    have Hf := hid_ (find_some h hk.len n i hi hp ho)
    have Hm := hid_ (PoolMem.setOwn h hp ((s.page n).own + 1))
    have Hs : Hid (s.shareS n = s.setPg n { s.page n with own := (s.page n).own + 1 }) := by unfold Hid Pl.shareS; rw [if_neg ho]
    have Hfr : Hid ((s.setPg n { s.page n with own := (s.page n).own + 1 }).free = s.free) := Pl.free_setPg_same ho (by show (s.page n).own + 1 ≠ 0; omega)
    have Hn : Hid (s.noneE n = 0) := by unfold Hid Pl.noneE; rw [if_neg ho]
    have Hi := hid_ hi
    rw [Hs.out, Hn.out]
    clear h ho hi hp hk Hs Hn hm
    unfold PoolAt
    rw [Hfr.out, setPg_at Hi.out]
    show Calls _ _ _ _ fun e w' => e = .returned (.int .i64 0) ∧ PoolMem w' b bq _ s.free s.aside ∧ _
    generalize { s.page n with own := (s.page n).own + 1 } = pg at *
    generalize (s.page n).own = o at *
    go_enter Try.func22, Try.ntmps22
    go_wp2_with (go_at_call 63; refine (Hf.out).mono ?_; rintro e w' ⟨rfl, rfl⟩)
    go_ret
    exact ⟨rfl, Hm.out, upd_q (Upd.refl _ _) _ _⟩

theorem vals_zero : Pg.zero.vals = .string ⟨#[]⟩ :: .int .i64 0 :: List.replicate 32 (.int .i64 0) := rfl

set_option maxHeartbeats 800000 in
set_option maxRecDepth 100000 in
theorem drop_any (h : PoolAt w b bq s) {c : Int} (hk : s.Ok c) (hc : c < 9223372036854775807) (n : Int) :
    Calls Try.prog 16 #[.pointer (some ⟨b, 0, none⟩), .int .i64 n] w fun e w' =>
      e = .returned (.int .i64 (s.noneE n)) ∧ PoolAt w' b bq (s.dropS n) ∧ Upd (pS b bq) w w' := by
  by_cases ho : (s.page n).own = 0
  · have Hf := hid_ (find_none h hk.len n ho)
    have Hs : Hid (s.dropS n = s) := by unfold Hid Pl.dropS; rw [if_pos ho]
    have Hn : Hid (s.noneE n = 25) := by unfold Hid Pl.noneE; rw [if_pos ho]
    have Hh := hid_ h
    rw [Hs.out, Hn.out]
    clear h ho Hs Hn hk
    go_enter Try.func16, Try.ntmps16
    go_wp2_with (go_at_call 63; refine (Hf.out).mono ?_; rintro e w' ⟨rfl, rfl⟩)
    go_ret
    exact ⟨rfl, Hh.out, Upd.refl _ _⟩
  · obtain ⟨i, hi, hlt, hp⟩ := pl_used ho
    have hm := (Pl.page_mem ho).2.2.1
    obtain ⟨g0, g1⟩ := hk.own _ hm
    have c1 := PoolMem.cown h hp
    have f1 := PoolMem.fq h (i * 34 + 1)
    have Hf := hid_ (find_some h hk.len n i hi hp ho)
    have Hn : Hid (s.noneE n = 0) := by unfold Hid Pl.noneE; rw [if_neg ho]
    have Hi := hid_ hi
    by_cases h1 : (s.page n).own = 1
    · have hp0 : s.pages[i]? = some (s.page n) := hp
      have Hm1 := PoolMem.setOwn h hp 0
      have hlt' : i < (s.pages.set i { s.page n with own := 0 }).length := by rw [List.length_set]; exact hlt
      have Hm2 := Hm1.setPage hlt' Pg.zero rfl
      rw [List.set_set] at Hm2
      have Hm3 := hid_ (Hm2.setFree (s.free + 1))
      have hth := hid_ (Hm1.there hlt')
      have cf := Hm2.c1
      have ff := Hm2.fb 1
      have hfree := Pl.free_le s
      have hfree0 := Pl.free_nonneg s
      have hlen := hk.len
      have Hs : Hid (s.dropS n = s.setPg n Pg.zero) := by unfold Hid Pl.dropS; rw [if_neg ho, if_pos h1]
      have Hfr : Hid ((s.setPg n Pg.zero).free = s.free + 1) := Pl.free_setPg_free ho rfl
      rw [h1] at c1
      rw [Hs.out, Hn.out]
      unfold PoolAt
      rw [Hfr.out, setPg_at Hi.out]
      show Calls _ _ _ _ fun e w' => e = .returned (.int .i64 0) ∧ PoolMem w' b bq _ (s.free + 1) s.aside ∧ _
      clear h ho hi hp hk Hs Hn hm Hm1 Hm2 hp0 h1 g0 g1 hlt'
      generalize s.free = fr at *
      go_enter Try.func16, Try.ntmps16
      go_wp2_with (first
        | (go_at_call 63; refine (Hf.out).mono ?_; rintro e w' ⟨rfl, rfl⟩)
        | ((with_reducible refine wpList_store_agg (ty := 99) (x := .tmp 25) (y := .tmp 24) bq (i * 34) Pg.zero.vals 34 ?hx ?hy ?hn ?ht ?hi ?h1 ?_); (case hx => rfl); (case hy => rfl); (case hn => rfl); (case ht => exact hth.out); (case hi => kernel_rfl); (case h1 => rfl)))
      go_ret
      refine ⟨rfl, Hm3.out, ?_⟩
      exact upd_b (upd_qs (upd_q (Upd.refl _ _) _ _) _ _) _ _
    · have Hm := hid_ (PoolMem.setOwn h hp ((s.page n).own - 1))
      have Hs : Hid (s.dropS n = s.setPg n { s.page n with own := (s.page n).own - 1 }) := by unfold Hid Pl.dropS; rw [if_neg ho, if_neg h1]
      have Hfr : Hid ((s.setPg n { s.page n with own := (s.page n).own - 1 }).free = s.free) := Pl.free_setPg_same ho (by show (s.page n).own - 1 ≠ 0; omega)
      rw [Hs.out, Hn.out]
      have hne : ((s.page n).own - 1 == 0) = false := beq_eq_false_iff_ne.2 (by omega)
      have hb0 : 1 ≤ (s.page n).own := by omega
      unfold PoolAt
      rw [Hfr.out, setPg_at Hi.out]
      show Calls _ _ _ _ fun e w' => e = .returned (.int .i64 0) ∧ PoolMem w' b bq _ s.free s.aside ∧ _
      clear h ho hi hp hk Hs Hn hm h1
      generalize { s.page n with own := (s.page n).own - 1 } = pg at *
      generalize (s.page n).own = o at *
      go_enter Try.func16, Try.ntmps16
      go_wp2_with (go_at_call 63; refine (Hf.out).mono ?_; rintro e w' ⟨rfl, rfl⟩)
      go_ret
      exact ⟨rfl, Hm.out, upd_q (Upd.refl _ _) _ _⟩
end
end Go.Proofs.Ytelmolblcnolnaa
