/- Take, Draw, Reserve, Unreserve, Sizes, Count, New of the pool, walked. Conditions: the pool lies in memory as 'PoolAt' says, and is sound ('Pl.Ok'). -/
import Derived.Test.YtelmolblcnolnaaPoolWalkD
namespace Go.Proofs.Ytelmolblcnolnaa
open Go.RowKit

theorem natVals_ints (l : List Nat) : natVals l = (l.map (fun (j : Nat) => (j : Int))).map (Value.int .i64) := by
  unfold natVals
  rw [List.map_map]
  rfl
theorem own_nil (w : World) (base : Nat) (e : TypeId) : w.ownsRow base e 1 (.slice none 0 0) 0 [] := ⟨rfl, .inl ⟨rfl, rfl⟩⟩
/-- A row of whole numbers that the call made. -/
def OwnI (w : World) (base : Nat) (v : Value) (xs : List Int) : Prop := w.ownsRow base 3 1 v xs.length (xs.map (Value.int .i64))
theorem OwnI.nil (w : World) (base : Nat) : OwnI w base (.slice none 0 0) [] := own_nil w base _

section
variable {w : World} {b bq : Nat} {s : Pl}
theorem PoolAt.drewN (h : PoolAt w b bq s) (n : Nat) : PoolAt (w.drewN n) b bq s := PoolMem.upd (S := fun _ => False) h ((Upd.refl _ _).drewN n) (fun h => h) (fun h => h)

theorem take_any_core (h : PoolAt w b bq s) {c : Int} (hk : s.Ok c) (tag : ByteArray) (k : Int) (hk0 : 0 ≤ k) (hkf : k ≤ s.free) :
    Calls Try.prog 66 #[.pointer (some ⟨b, 0, none⟩), .string tag, .int .i64 k] w fun e w' =>
      ∃ v, e = .returned v ∧ OwnI w' w.heap.size v ((s.takeIx k).map (fun (j : Nat) => (j : Int))) ∧ PoolMem w' b bq (s.takeAll tag k).pages (s.free - k) s.aside ∧ Upd (pS b bq) w w' := by
  obtain ⟨n, rfl⟩ := Int.eq_ofNat_of_zero_le hk0
  have hfl := Pl.free_le s
  have hlen := hk.len
  refine (take_core h hk.len n (by unfold Pl.free at hkf; omega) hkf (by omega) tag).mono ?_
  rintro e w' ⟨v, he, ho, hp, hu⟩
  refine ⟨v, he, ?_, hp, hu⟩
  unfold OwnI
  rw [← natVals_ints, List.length_map, Pl.takeIx]
  have e : ((freeIx s.pages s.pages.length).take (n : Int).toNat).length = n := by
    rw [List.length_take]; unfold Pl.free at hkf; omega
  rw [e]
  exact ho

set_option maxHeartbeats 400000 in
theorem take_any (h : PoolAt w b bq s) {c : Int} (hk : s.Ok c) (tag : ByteArray) (k : Int) :
    Calls Try.prog 17 #[.pointer (some ⟨b, 0, none⟩), .string tag, .int .i64 k] w fun e w' =>
      ∃ v, e = .returned (.tuple #[v, .int .i64 (s.takeE tag k)]) ∧ OwnI w' w.heap.size v (s.takeL tag k) ∧ PoolAt w' b bq (s.takeS tag k) ∧ Upd (pS b bq) w w' := by
  by_cases he : s.takeE tag k = 0
  · obtain ⟨ht, hk0, hkf⟩ := Pl.ask_zero he
    have ha0 := hk.a0
    have Hc := fun n => hid_ (take_any_core (h.drewN n) hk tag k hk0 (by omega))
    have Hh := hid_ (hand_any h hk)
    have Ha : Hid (∀ W, Calls Try.prog 64 #[.string tag, .int .i64 k, .int .i64 (s.free - s.aside)] W fun e w' => e = .returned (.int .i64 0) ∧ W = w') := fun W => by
      have := ask_any tag k (s.free - s.aside) W
      unfold Pl.takeE at he
      rw [he] at this
      exact this
    have HL : Hid (s.takeL tag k = (s.takeIx k).map (fun (j : Nat) => (j : Int))) := by unfold Hid Pl.takeL; rw [if_pos he]
    have HS : Hid (s.takeS tag k = s.takeAll tag k) := by unfold Hid Pl.takeS; rw [if_pos he]
    have HF := hid_ (Pl.free_takeAll s tag hk0 (by omega))
    rw [he, HL.out, HS.out]
    unfold PoolAt
    rw [HF.out]
    show Calls _ _ _ _ fun e w' => ∃ v, e = _ ∧ _ ∧ PoolMem w' b bq (s.takeAll tag k).pages (s.free - k) s.aside ∧ _
    clear h hk ht hk0 hkf ha0 he HL HS HF
    generalize s.free - s.aside = fa at *
    go_enter Try.func17, Try.ntmps17
    go_wp2_with fail
    refine Hh.out.mono ?_
    rintro e w' ⟨rfl, n, rfl⟩
    go_wp2_with fail
    refine (Ha.out _).mono ?_
    rintro e w' ⟨rfl, rfl⟩
    go_wp2_with fail
    refine (Hc n).out.mono ?_
    rintro e w' ⟨v, rfl, ho, hp, hu⟩
    have Ho := hid_ ho
    have Hp := hid_ hp
    have Hu := hid_ hu
    clear ho hp hu
    go_wp2_with fail
    go_ret2
    exact ⟨v, rfl, Ho.out, Hp.out, (Upd.refl _ _).drewN n |>.trans Hu.out⟩
  · have Hh := hid_ (hand_any h hk)
    have Hp := hid_ h
    have Ha := hid_ (fun W => ask_any tag k (s.free - s.aside) W)
    have HL : Hid (s.takeL tag k = []) := by unfold Hid Pl.takeL; rw [if_neg he]
    have HS : Hid (s.takeS tag k = s) := by unfold Hid Pl.takeS; rw [if_neg he]
    rw [HL.out, HS.out]
    have he' : (s.takeE tag k == 0) = false := beq_eq_false_iff_ne.2 he
    unfold Pl.takeE at *
    generalize s.free - s.aside = fa at *
    generalize Pl.ask tag k fa = x at *
    clear h hk HL HS he
    go_enter Try.func17, Try.ntmps17
    go_wp2_with fail
    refine Hh.out.mono ?_
    rintro e w' ⟨rfl, n, rfl⟩
    go_wp2_with fail
    refine (Ha.out _).mono ?_
    rintro e w' ⟨rfl, rfl⟩
    go_wp2_with fail
    go_ret2
    exact ⟨_, rfl, OwnI.nil _ _, Hp.out.drewN n, (Upd.refl _ _).drewN n⟩

set_option maxHeartbeats 400000 in
theorem draw_any (h : PoolAt w b bq s) {c : Int} (hk : s.Ok c) (tag : ByteArray) (k : Int) :
    Calls Try.prog 21 #[.pointer (some ⟨b, 0, none⟩), .string tag, .int .i64 k] w fun e w' =>
      ∃ v, e = .returned (.tuple #[v, .int .i64 (s.drawE tag k)]) ∧ OwnI w' w.heap.size v (s.drawL tag k) ∧ PoolAt w' b bq (s.drawS tag k) ∧ Upd (pS b bq) w w' := by
  have c2 := PoolMem.c2 h
  by_cases he : s.drawE tag k = 0
  · obtain ⟨ht, hk0, hkf⟩ := Pl.ask_zero he
    have ha0 := hk.a0
    have ha1 := hk.a1
    have hfl := Pl.free_le s
    have hlen := hk.len
    have f2 := PoolMem.fb h 2
    have hm := PoolMem.setAside h (s.aside - k)
    have Hc := hid_ (take_any_core (s := { s with aside := s.aside - k }) hm (c := c) ⟨hk.len, by show 0 ≤ s.aside - k; omega, by show s.aside - k ≤ s.free; omega, hk.own, hk.cells, hk.tag0⟩ tag k hk0 (by show k ≤ s.free; omega))
    have Ha : Hid (∀ W, Calls Try.prog 64 #[.string tag, .int .i64 k, .int .i64 s.aside] W fun e w' => e = .returned (.int .i64 0) ∧ W = w') := fun W => by
      have := ask_any tag k s.aside W
      unfold Pl.drawE at he
      rw [he] at this
      exact this
    have HL : Hid (s.drawL tag k = (s.takeIx k).map (fun (j : Nat) => (j : Int))) := by unfold Hid Pl.drawL; rw [if_pos he]
    have HS : Hid (s.drawS tag k = { s.takeAll tag k with aside := s.aside - k }) := by unfold Hid Pl.drawS; rw [if_pos he]
    have HF : Hid (({ s.takeAll tag k with aside := s.aside - k } : Pl).free = s.free - k) := Pl.free_takeAll s tag hk0 (by omega)
    rw [he, HL.out, HS.out]
    unfold PoolAt
    rw [HF.out]
    show Calls _ _ _ _ fun e w' => ∃ v, e = _ ∧ _ ∧ PoolMem w' b bq (s.takeAll tag k).pages (s.free - k) (s.aside - k) ∧ _
    clear h hk ht he HL HS HF hm
    go_enter Try.func21, Try.ntmps21
    go_wp2_with fail
    refine (Ha.out _).mono ?_
    rintro e w' ⟨rfl, rfl⟩
    go_wp2_with fail
    refine Hc.out.mono ?_
    rintro e w' ⟨v, rfl, ho, hp, hu⟩
    have Ho := hid_ ho
    have Hp := hid_ hp
    have Hu := hid_ hu
    clear ho hp hu
    go_wp2_with fail
    go_ret2
    exact ⟨v, rfl, own_base Ho.out (by simp [World.setCell]), Hp.out, (upd_b (Upd.refl _ _) _ _).trans Hu.out⟩
  · have Hp := hid_ h
    have Ha := hid_ (fun W => ask_any tag k s.aside W)
    have HL : Hid (s.drawL tag k = []) := by unfold Hid Pl.drawL; rw [if_neg he]
    have HS : Hid (s.drawS tag k = s) := by unfold Hid Pl.drawS; rw [if_neg he]
    rw [HL.out, HS.out]
    have he' : (s.drawE tag k == 0) = false := beq_eq_false_iff_ne.2 he
    unfold Pl.drawE at *
    generalize hx : Pl.ask tag k s.aside = x at *
    clear h hk HL HS he hx
    go_enter Try.func21, Try.ntmps21
    go_wp2_with fail
    refine (Ha.out _).mono ?_
    rintro e w' ⟨rfl, rfl⟩
    go_wp2_with fail
    go_ret2
    exact ⟨_, rfl, OwnI.nil _ _, Hp.out, Upd.refl _ _⟩

theorem ask_dash (k o : Int) : Pl.ask ⟨#[45]⟩ k o = if k < 0 then 20 else if o < k then 6 else 0 := by
  unfold Pl.ask
  show (if [(45 : UInt8)] = [] ∨ k < 0 then (20 : Int) else _) = _
  by_cases h : k < 0
  · rw [if_pos (.inr h), if_pos h]
  · rw [if_neg (fun hh => hh.elim (fun x => by cases x) h), if_neg h]

set_option maxHeartbeats 400000 in
theorem reserve_any (h : PoolAt w b bq s) {c : Int} (hk : s.Ok c) (k : Int) :
    Calls Try.prog 19 #[.pointer (some ⟨b, 0, none⟩), .int .i64 k] w fun e w' =>
      e = .returned (.int .i64 (s.resE k)) ∧ PoolAt w' b bq (s.resS k) ∧ Upd (pS b bq) w w' := by
  have c2 := PoolMem.c2 h
  have f2 := PoolMem.fb h 2
  have Hh := hid_ (hand_any h hk)
  have Ha := hid_ (fun W => ask_any ⟨#[45]⟩ k (s.free - s.aside) W)
  have e0 : Pl.ask ⟨#[45]⟩ k (s.free - s.aside) = s.resE k := by rw [ask_dash]; rfl
  rw [e0] at Ha
  have ha0 := hk.a0
  have ha1 := hk.a1
  have hfl := Pl.free_le s
  have hlen := hk.len
  by_cases he : s.resE k = 0
  · have hkk : 0 ≤ k ∧ k ≤ s.free - s.aside := by
      unfold Pl.resE at he
      by_cases h1 : k < 0
      · rw [if_pos h1] at he; cases he
      · rw [if_neg h1] at he
        by_cases h2 : s.free - s.aside < k
        · rw [if_pos h2] at he; cases he
        · omega
    have Hm := fun n => hid_ (PoolMem.setAside (h.drewN n) (s.aside + k))
    have HS : Hid (s.resS k = { s with aside := s.aside + k }) := by unfold Hid Pl.resS; rw [if_pos he]
    rw [HS.out]
    rw [he] at Ha ⊢
    clear h hk he HS e0
    go_enter Try.func19, Try.ntmps19
    go_wp2_with fail
    refine Hh.out.mono ?_
    rintro e w' ⟨rfl, n, rfl⟩
    go_wp2_with fail
    refine (Ha.out _).mono ?_
    rintro e w' ⟨rfl, rfl⟩
    go_wp2_with fail
    go_ret
    exact ⟨rfl, (Hm n).out, upd_b ((Upd.refl _ _).drewN n) _ _⟩
  · have HS : Hid (s.resS k = s) := by unfold Hid Pl.resS; rw [if_neg he]
    have Hp := hid_ h
    have he' : (s.resE k == 0) = false := beq_eq_false_iff_ne.2 he
    rw [HS.out]
    generalize s.resE k = x at *
    clear h hk he HS e0
    go_enter Try.func19, Try.ntmps19
    go_wp2_with fail
    refine Hh.out.mono ?_
    rintro e w' ⟨rfl, n, rfl⟩
    go_wp2_with fail
    refine (Ha.out _).mono ?_
    rintro e w' ⟨rfl, rfl⟩
    go_wp2_with fail
    go_ret
    exact ⟨rfl, Hp.out.drewN n, (Upd.refl _ _).drewN n⟩

set_option maxHeartbeats 400000 in
theorem unreserve_any (h : PoolAt w b bq s) {c : Int} (hk : s.Ok c) (k : Int) :
    Calls Try.prog 20 #[.pointer (some ⟨b, 0, none⟩), .int .i64 k] w fun e w' =>
      e = .returned (.int .i64 (s.unresE k)) ∧ PoolAt w' b bq (s.unresS k) ∧ Upd (pS b bq) w w' := by
  have c2 := PoolMem.c2 h
  have f2 := PoolMem.fb h 2
  have ha0 := hk.a0
  have ha1 := hk.a1
  have hfl := Pl.free_le s
  have hlen := hk.len
  by_cases hx : k < 0 ∨ s.aside < k
  · have he : s.unresE k = 20 := by unfold Pl.unresE; rw [if_pos hx]
    have HS : Hid (s.unresS k = s) := by unfold Hid Pl.unresS; rw [if_neg (by rw [he]; decide)]
    have Hp := hid_ h
    rw [HS.out, he]
    clear h hk he HS
    rcases hx with hx | hx
    all_goals
      go_enter Try.func20, Try.ntmps20
      go_wp2_with fail
      go_ret
      exact ⟨rfl, Hp.out, Upd.refl _ _⟩
  · have he : s.unresE k = 0 := by unfold Pl.unresE; rw [if_neg hx]
    have HS : Hid (s.unresS k = { s with aside := s.aside - k }) := by unfold Hid Pl.unresS; rw [if_pos he]
    have Hm := hid_ (PoolMem.setAside h (s.aside - k))
    have h1 : 0 ≤ k := by omega
    have h2 : k ≤ s.aside := by omega
    rw [HS.out, he]
    clear h hk he HS hx
    go_enter Try.func20, Try.ntmps20
    go_wp2_with fail
    go_ret
    exact ⟨rfl, Hm.out, upd_b (Upd.refl _ _) _ _⟩

set_option maxHeartbeats 400000 in
theorem sizes_any (h : PoolAt w b bq s) :
    Calls Try.prog 23 #[.pointer (some ⟨b, 0, none⟩)] w fun e w' =>
      e = .returned (.tuple #[.int .i64 (s.pages.length : Int), .int .i64 s.free, .int .i64 s.aside]) ∧ ∃ n, w' = w.drewN n := by
  have c0 := PoolMem.c0 h
  have c1 := PoolMem.c1 h
  have c2 := PoolMem.c2 h
  clear h
  generalize s.free = f at *
  generalize s.aside = a at *
  generalize s.pages.length = m at *
  go_enter Try.func23, Try.ntmps23
  go_wp2_with fail
  go_quiet (fail)
  go_wp2_with fail
  go_ret3
  exact ⟨rfl, _, rfl⟩
end
end Go.Proofs.Ytelmolblcnolnaa
