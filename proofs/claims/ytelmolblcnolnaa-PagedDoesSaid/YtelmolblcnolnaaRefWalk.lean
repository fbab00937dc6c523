/- The document's pool's functions, walked: each comes to what the plain data says. Conditions: the pool lies in memory as 'RefAt' says, and is sound ('Pl.Ok'). -/
import Derived.Test.YtelmolblcnolnaaRefMem
import Derived.Test.YtelmolblcnolnaaPoolWalkF
namespace Go.Proofs.Ytelmolblcnolnaa
open Go.RowKit

section
variable {w : World} {rb rq : Nat} {gs : Nat → Nat} {s : Pl} {c : Int}
theorem RefAt.drewN (h : RefAt w rb rq gs s) (n : Nat) : RefAt (w.drewN n) rb rq gs s := RefMem.upd (S := fun _ => False) h ((Upd.refl _ _).drewN n) (fun _ _ h => h)

set_option maxHeartbeats 400000 in
theorem rused_yes (h : RefAt w rb rq gs s) (hk : s.Ok c) (n : Int) (ho : (s.page n).own ≠ 0) :
    Calls Try.prog 73 #[.pointer (some ⟨rb, 0, none⟩), .int .i64 n] w fun e w' => e = .returned (.bool true) ∧ w = w' := by
  obtain ⟨i, rfl, hlt, hp⟩ := pl_used ho
  have c0 := RefMem.c0 h
  have c1 := RefMem.cown h hp
  have hl := hk.len
  have hpos : 0 < (s.page (i : Int)).own := by have := (hk.own _ (Pl.page_mem ho).2.2.1).1; omega
  clear h hp ho hk
  generalize (s.page (i : Int)).own = o at *
  generalize s.pages.length = m at *
  go_enter Try.func73, Try.ntmps73
  go_wp2_with fail
  go_ret
  exact ⟨rfl, rfl⟩

set_option maxHeartbeats 400000 in
theorem rused_no (h : RefAt w rb rq gs s) (hk : s.Ok c) (n : Int) (ho : (s.page n).own = 0) :
    Calls Try.prog 73 #[.pointer (some ⟨rb, 0, none⟩), .int .i64 n] w fun e w' => e = .returned (.bool false) ∧ w = w' := by
  have c0 := RefMem.c0 h
  have hl := hk.len
  by_cases h0 : 0 ≤ n
  · obtain ⟨i, rfl⟩ := Int.eq_ofNat_of_zero_le h0
    rcases Nat.lt_or_ge i s.pages.length with hlt | hge
    · have c1 := RefMem.cown h (pl_page_get hlt)
      rw [ho] at c1
      clear ho h hk
      generalize s.pages.length = m at *
      go_enter Try.func73, Try.ntmps73
      go_wp2_with fail
      go_ret
      exact ⟨rfl, rfl⟩
    · clear ho h hk
      generalize s.pages.length = m at *
      go_enter Try.func73, Try.ntmps73
      go_wp2_with fail
      go_ret
      exact ⟨rfl, rfl⟩
  · have h0 : n < 0 := by omega
    clear ho h hk
    generalize s.pages.length = m at *
    go_enter Try.func73, Try.ntmps73
    go_wp2_with fail
    go_ret
    exact ⟨rfl, rfl⟩

set_option maxHeartbeats 400000 in
theorem rowners_any (h : RefAt w rb rq gs s) (hk : s.Ok c) (n : Int) :
    Calls Try.prog 75 #[.pointer (some ⟨rb, 0, none⟩), .int .i64 n] w fun e w' => e = .returned (.int .i64 (s.owners n)) ∧ w = w' := by
  by_cases ho : (s.page n).own = 0
  · have Hf := hid_ (rused_no h hk n ho)
    have Ho := hid_ ho
    clear h ho hk
    go_enter Try.func75, Try.ntmps75
    go_wp2_with (go_at_call 73; refine (Hf.out).mono ?_; rintro e w' ⟨rfl, rfl⟩)
    go_ret
    exact ⟨ret_int Ho.out.symm, rfl⟩
  · have Hf := hid_ (rused_yes h hk n ho)
    obtain ⟨i, rfl, hlt, hp⟩ := pl_used ho
    have c0 := RefMem.c0 h
    have c1 := RefMem.cown h hp
    have hl := hk.len
    clear h ho hp hk
    go_enter Try.func75, Try.ntmps75
    go_wp2_with (go_at_call 73; refine (Hf.out).mono ?_; rintro e w' ⟨rfl, rfl⟩)
    go_ret
    exact ⟨rfl, rfl⟩

set_option maxHeartbeats 400000 in
theorem rtag_any (h : RefAt w rb rq gs s) (hk : s.Ok c) (n : Int) :
    Calls Try.prog 76 #[.pointer (some ⟨rb, 0, none⟩), .int .i64 n] w fun e w' => e = .returned (.string (s.tagOf n)) ∧ w = w' := by
  by_cases ho : (s.page n).own = 0
  · have Hf := hid_ (rused_no h hk n ho)
    have Ho := hid_ ho
    clear h ho hk
    go_enter Try.func76, Try.ntmps76
    go_wp2_with (go_at_call 73; refine (Hf.out).mono ?_; rintro e w' ⟨rfl, rfl⟩)
    go_ret
    exact ⟨ret_str (by unfold Pl.tagOf; rw [if_pos Ho.out]), rfl⟩
  · have Hf := hid_ (rused_yes h hk n ho)
    have Ho := hid_ ho
    obtain ⟨i, rfl, hlt, hp⟩ := pl_used ho
    have c0 := RefMem.c0 h
    have c1 := RefMem.ctag h hp
    have hl := hk.len
    clear h ho hp hk
    go_enter Try.func76, Try.ntmps76
    go_wp2_with (go_at_call 73; refine (Hf.out).mono ?_; rintro e w' ⟨rfl, rfl⟩)
    go_ret
    exact ⟨ret_str (by unfold Pl.tagOf; rw [if_neg Ho.out]), rfl⟩

set_option maxHeartbeats 400000 in
theorem rget_any (h : RefAt w rb rq gs s) (hk : s.Ok c) (n x : Int) :
    Calls Try.prog 30 #[.pointer (some ⟨rb, 0, none⟩), .int .i64 n, .int .i64 x] w fun e w' => e = .returned (.tuple #[.int .i64 (s.get n x), .int .i64 (s.cellE n x)]) ∧ w = w' := by
  by_cases hc : s.cellE n x = 0
  · obtain ⟨ho, k, rfl, hk32⟩ := cellE_zero hc
    have Hf := hid_ (rused_yes h hk n ho)
    have Hv : Hid (s.get n k = (s.page n).cells.getD k 0) := by unfold Pl.get; rw [if_pos hc]; rfl
    obtain ⟨i, rfl, hlt, hp⟩ := pl_used ho
    have c0 := RefMem.c0 h
    have c1 := RefMem.ccells h hp ho
    have c2 := RefMem.cval h hp ho hk32
    have hl := hk.len
    rw [hc, Hv.out]
    generalize (s.page (i : Int)).cells.getD k 0 = v at *
    clear h ho hp hc Hv hk
    generalize s.pages.length = m at *
    go_enter Try.func30, Try.ntmps30
    go_wp2_with (go_at_call 73; refine (Hf.out).mono ?_; rintro e w' ⟨rfl, rfl⟩)
    go_ret2
    exact ⟨rfl, rfl⟩
  · have Hv : Hid (s.get n x = 0) := by unfold Pl.get; rw [if_neg hc]; rfl
    rw [Hv.out]
    by_cases ho : (s.page n).own = 0
    · have He : Hid (s.cellE n x = 25) := by unfold Pl.cellE; rw [if_pos ho]; rfl
      have Hf := hid_ (rused_no h hk n ho)
      rw [He.out]
      clear h ho hc Hv hk He
      go_enter Try.func30, Try.ntmps30
      go_wp2_with (go_at_call 73; refine (Hf.out).mono ?_; rintro e w' ⟨rfl, rfl⟩)
      go_ret2
      exact ⟨rfl, rfl⟩
    · have hcc : x < 0 ∨ 32 ≤ x := by
        unfold Pl.cellE at hc
        rw [if_neg ho] at hc
        by_cases hcc : x < 0 ∨ 32 ≤ x
        · exact hcc
        · rw [if_neg hcc] at hc; exact absurd rfl hc
      have He : Hid (s.cellE n x = 20) := by unfold Pl.cellE; rw [if_neg ho, if_pos hcc]; rfl
      have Hf := hid_ (rused_yes h hk n ho)
      rw [He.out]
      clear h ho hc Hv hk He
      rcases hcc with hcc | hcc
      all_goals
        go_enter Try.func30, Try.ntmps30
        go_wp2_with (go_at_call 73; refine (Hf.out).mono ?_; rintro e w' ⟨rfl, rfl⟩)
        go_ret2
        exact ⟨rfl, rfl⟩

set_option maxHeartbeats 400000 in
theorem rput_any (h : RefAt w rb rq gs s) (hk : s.Ok c) (n x v : Int) :
    Calls Try.prog 45 #[.pointer (some ⟨rb, 0, none⟩), .int .i64 n, .int .i64 x, .int .i64 v] w fun e w' =>
      e = .returned (.int .i64 (s.cellE n x)) ∧ RefTo w rb rq gs s.pages (s.putS n x v).pages (s.putS n x v).aside w' := by
  by_cases hc : s.cellE n x = 0
  · obtain ⟨ho, k, rfl, hk32⟩ := cellE_zero hc
    have Hf := hid_ (rused_yes h hk n ho)
    have Hs : Hid (s.putS n k v = s.setPg n { s.page n with cells := (s.page n).cells.set k v }) := by unfold Hid Pl.putS; rw [if_pos hc]; rfl
    obtain ⟨i, rfl, hlt, hp⟩ := pl_used ho
    have c0 := RefMem.c0 h
    have c1 := RefMem.ccells h hp ho
    have c2 := RefMem.cval h hp ho hk32
    have f2 := Blk.frozen (RefMem.blk h hp ho) k
    have hl := hk.len
    have Hm : Hid (RefTo w rb rq gs s.pages (s.setPg i { s.page i with cells := (s.page i).cells.set k v }).pages s.aside (w.setCell ⟨gs i, k, none⟩ (.int .i64 v))) :=
      ⟨⟨gs, RefMem.setVal h hp ho v, fun q hq => .inl (rS_set hp ho hq)⟩, (Upd.refl _ _).setCell (.inl (.inr (.inr ⟨i, _, hp, ho, rfl⟩))) _⟩
    rw [hc, Hs.out]
    generalize (s.page (i : Int)).cells.getD k 0 = v0 at *
    clear h ho hp hc Hs hk
    go_enter Try.func45, Try.ntmps45
    go_wp2_with (go_at_call 73; refine (Hf.out).mono ?_; rintro e w' ⟨rfl, rfl⟩)
    go_ret
    exact ⟨rfl, Hm.out⟩
  · have Hs : Hid (s.putS n x v = s) := by unfold Hid Pl.putS; rw [if_neg hc]
    have Hm : Hid (RefTo w rb rq gs s.pages s.pages s.aside w) := RefTo.same h (Upd.refl _ _)
    rw [Hs.out]
    by_cases ho : (s.page n).own = 0
    · have He : Hid (s.cellE n x = 25) := by unfold Pl.cellE; rw [if_pos ho]; rfl
      have Hf := hid_ (rused_no h hk n ho)
      rw [He.out]
      clear h ho hc Hs hk He
      go_enter Try.func45, Try.ntmps45
      go_wp2_with (go_at_call 73; refine (Hf.out).mono ?_; rintro e w' ⟨rfl, rfl⟩)
      go_ret
      exact ⟨rfl, Hm.out⟩
    · have hcc : x < 0 ∨ 32 ≤ x := by
        unfold Pl.cellE at hc
        rw [if_neg ho] at hc
        by_cases hcc : x < 0 ∨ 32 ≤ x
        · exact hcc
        · rw [if_neg hcc] at hc; exact absurd rfl hc
      have He : Hid (s.cellE n x = 20) := by unfold Pl.cellE; rw [if_neg ho, if_pos hcc]; rfl
      have Hf := hid_ (rused_yes h hk n ho)
      rw [He.out]
      clear h ho hc Hs hk He
      rcases hcc with hcc | hcc
      all_goals
        go_enter Try.func45, Try.ntmps45
        go_wp2_with (go_at_call 73; refine (Hf.out).mono ?_; rintro e w' ⟨rfl, rfl⟩)
        go_ret
        exact ⟨rfl, Hm.out⟩

set_option maxHeartbeats 400000 in
theorem rshare_any (h : RefAt w rb rq gs s) (hk : s.Ok c) (hc : c < 9223372036854775807) (n : Int) :
    Calls Try.prog 44 #[.pointer (some ⟨rb, 0, none⟩), .int .i64 n] w fun e w' =>
      e = .returned (.int .i64 (s.noneE n)) ∧ RefTo w rb rq gs s.pages (s.shareS n).pages (s.shareS n).aside w' := by
  by_cases ho : (s.page n).own = 0
  · have Hf := hid_ (rused_no h hk n ho)
    have Hs : Hid (s.shareS n = s) := by unfold Hid Pl.shareS; rw [if_pos ho]
    have Hn : Hid (s.noneE n = 25) := by unfold Hid Pl.noneE; rw [if_pos ho]
    have Hm : Hid (RefTo w rb rq gs s.pages s.pages s.aside w) := RefTo.same h (Upd.refl _ _)
    rw [Hs.out, Hn.out]
    clear h ho Hs Hn hk
    go_enter Try.func44, Try.ntmps44
    go_wp2_with (go_at_call 73; refine (Hf.out).mono ?_; rintro e w' ⟨rfl, rfl⟩)
    go_ret
    exact ⟨rfl, Hm.out⟩
  · have Hf := hid_ (rused_yes h hk n ho)
    have Hs : Hid (s.shareS n = s.setPg n { s.page n with own := (s.page n).own + 1 }) := by unfold Hid Pl.shareS; rw [if_neg ho]
    have Hn : Hid (s.noneE n = 0) := by unfold Hid Pl.noneE; rw [if_neg ho]
    obtain ⟨g0, g1⟩ := hk.own _ (Pl.page_mem ho).2.2.1
    obtain ⟨i, rfl, hlt, hp⟩ := pl_used ho
    have c0 := RefMem.c0 h
    have c1 := RefMem.cown h hp
    have f1 := RefMem.fq h (i * 3 + 1)
    have hl := hk.len
    have Hm : Hid (RefTo w rb rq gs s.pages (s.setPg i { s.page i with own := (s.page i).own + 1 }).pages s.aside (w.setCell ⟨rq, i * 3 + 1, none⟩ (.int .i64 ((s.page i).own + 1)))) :=
      ⟨⟨gs, RefMem.setOwn h hp ho _, fun q hq => .inl (rS_set hp ho hq)⟩, (Upd.refl _ _).setCell (.inl (.inr (.inl rfl))) _⟩
    rw [Hs.out, Hn.out]
    clear h ho hp hk Hs Hn
    show Calls _ _ _ _ fun e w' => e = .returned (.int .i64 0) ∧ RefTo w rb rq gs s.pages (s.setPg i _).pages s.aside w'
    generalize { s.page i with own := (s.page i).own + 1 } = pg at *
    generalize (s.page i).own = o at *
    generalize s.pages.length = m at *
    go_enter Try.func44, Try.ntmps44
    go_wp2_with (go_at_call 73; refine (Hf.out).mono ?_; rintro e w' ⟨rfl, rfl⟩)
    go_ret
    exact ⟨rfl, Hm.out⟩

set_option maxHeartbeats 800000 in
theorem rdrop_any (h : RefAt w rb rq gs s) (hk : s.Ok c) (hc : c < 9223372036854775807) (n : Int) :
    Calls Try.prog 72 #[.pointer (some ⟨rb, 0, none⟩), .int .i64 n] w fun e w' =>
      e = .returned (.int .i64 (s.noneE n)) ∧ RefTo w rb rq gs s.pages (s.dropS n).pages (s.dropS n).aside w' := by
  by_cases ho : (s.page n).own = 0
  · have Hf := hid_ (rused_no h hk n ho)
    have Hs : Hid (s.dropS n = s) := by unfold Hid Pl.dropS; rw [if_pos ho]
    have Hn : Hid (s.noneE n = 25) := by unfold Hid Pl.noneE; rw [if_pos ho]
    have Hm : Hid (RefTo w rb rq gs s.pages s.pages s.aside w) := RefTo.same h (Upd.refl _ _)
    rw [Hs.out, Hn.out]
    clear h ho Hs Hn hk
    go_enter Try.func72, Try.ntmps72
    go_wp2_with (go_at_call 73; refine (Hf.out).mono ?_; rintro e w' ⟨rfl, rfl⟩)
    go_ret
    exact ⟨rfl, Hm.out⟩
  · have Hf := hid_ (rused_yes h hk n ho)
    have Hn : Hid (s.noneE n = 0) := by unfold Hid Pl.noneE; rw [if_neg ho]
    obtain ⟨g0, g1⟩ := hk.own _ (Pl.page_mem ho).2.2.1
    obtain ⟨i, rfl, hlt, hp⟩ := pl_used ho
    have c0 := RefMem.c0 h
    have c1 := RefMem.cown h hp
    have f1 := RefMem.fq h (i * 3 + 1)
    have hl := hk.len
    have hne := RefMem.ne h
    have cz := c0
    have hu1 : Upd (rS rb rq gs s.pages) w (w.setCell ⟨rq, i * 3 + 1, none⟩ (.int .i64 ((s.page (i : Int)).own - 1))) := (Upd.refl _ _).setCell (.inl (.inr (.inl rfl))) _
    by_cases h1 : (s.page (i : Int)).own = 1
    · have Hs : Hid (s.dropS (i : Int) = s.setPg i Pg.zero) := by unfold Hid Pl.dropS; rw [if_neg ho, if_pos h1]
      have Hm1 : RefMem (w.setCell ⟨rq, i * 3 + 1, none⟩ (.int .i64 0)) rb rq gs (s.pages.set i Pg.zero) s.aside → True := fun _ => trivial
      have hlt' : i < s.pages.length := hlt
      have Hth : Hid ((w.setCell ⟨rq, i * 3 + 1, none⟩ (.int .i64 0)).there rq (i * 3) 3) := fun j hj => by
        obtain ⟨t1, t2⟩ := RefMem.there h hlt j hj
        refine ⟨?_, by rw [World.frozen?_setCell]; exact t2⟩
        by_cases e : j = 1
        · subst e
          rw [World.cell?_setCell_same _ _ _ c1]; rfl
        · rw [World.cell?_setCell_other _ _ _ _ (fun e' => by injection e' with _ e' _; omega)]
          exact t1
      have hu2 : Upd (rS rb rq gs s.pages) w ((w.setCell ⟨rq, i * 3 + 1, none⟩ (.int .i64 0)).setCells rq (i * 3) [.string ⟨#[]⟩, .int .i64 0, .slice none 0 0]) :=
        Upd.setCells (.inl (.inr (.inl rfl))) _ _ ((Upd.refl _ _).setCell (.inl (.inr (.inl rfl))) _)
      have hm2 : RefMem ((w.setCell ⟨rq, i * 3 + 1, none⟩ (.int .i64 0)).setCells rq (i * 3) [.string ⟨#[]⟩, .int .i64 0, .slice none 0 0]) rb rq gs (s.pages.set i Pg.zero) s.aside := by
        refine RefMem.change h hlt Pg.zero ?_ (Blk.ex_setCells _ _ _ (Blk.ex_setCell (RefMem.tq h) _ rfl _)) (fun o ho => ?_) ⟨.slice none 0 0, World.rangeAt_setCells_same _ rq _ _ Hth.out, fun hz => absurd rfl hz⟩ (fun _ _ => rfl) (fun j q _ hq hqo => ?_) (fun hz => absurd rfl hz) rfl
        · have := Blk.farS (t := 107) hne [.string ⟨#[]⟩, .int .i64 0, .slice none 0 0] (i * 3) ((RefMem.hb h).far (p := ⟨rq, i * 3 + 1, none⟩) hne (.int .i64 0))
          exact this.trans (RefMem.hb h).symm
        · rw [World.cell?_setCells_out rq _ (i * 3) _ ⟨rq, o, none⟩ (fun _ _ => by show o < i * 3 ∨ i * 3 + 3 ≤ o; exact ho)]
          exact World.cell?_setCell_other _ _ _ _ (fun e => by injection e with _ e _; omega)
        · have h3 := RefMem.blk h hq hqo
          have h4 := (RefMem.ne_gs h hq hqo).2
          exact (Blk.farS h4 [.string ⟨#[]⟩, .int .i64 0, .slice none 0 0] (i * 3) (h3.far (p := ⟨rq, i * 3 + 1, none⟩) h4 (.int .i64 0))).trans h3.symm
      have Hm : Hid (RefTo w rb rq gs s.pages (s.setPg i Pg.zero).pages s.aside _) := ⟨⟨gs, hm2, fun q hq => .inl (rS_set hp ho hq)⟩, hu2⟩
      rw [Hs.out, Hn.out]
      show Calls _ _ _ _ fun e w' => e = .returned (.int .i64 0) ∧ RefTo w rb rq gs s.pages (s.setPg i Pg.zero).pages s.aside w'
      rw [h1] at c1
      have c0' : (w.setCell ⟨rq, i * 3 + 1, none⟩ (.int .i64 0)).cell? ⟨rb, 0, none⟩ = some (.slice (some ⟨rq, 0, none⟩) s.pages.length s.pages.length) :=
        (World.cell?_setCell_other _ _ _ _ (fun e => by injection e with e _ _; exact hne e.symm)).trans c0
      clear h ho hp hk Hs Hn h1 g0 g1 hm2 hu2 hu1 Hm1 cz
      generalize s.pages.length = m at *
      go_enter Try.func72, Try.ntmps72
      go_wp2_with (first
        | (go_at_call 73; refine (Hf.out).mono ?_; rintro e w' ⟨rfl, rfl⟩)
        | ((with_reducible refine wpList_store_agg (ty := 111) (x := .tmp 35) (y := .tmp 34) rq (i * 3) [.string ⟨#[]⟩, .int .i64 0, .slice none 0 0] 3 ?hx ?hy ?hn ?ht ?hi ?h1 ?_); (case hx => rfl); (case hy => rfl); (case hn => rfl); (case ht => exact Hth.out); (case hi => kernel_rfl); (case h1 => rfl)))
      go_ret
      exact ⟨rfl, Hm.out⟩
    · have Hs : Hid (s.dropS (i : Int) = s.setPg i { s.page i with own := (s.page i).own - 1 }) := by unfold Hid Pl.dropS; rw [if_neg ho, if_neg h1]
      have Hm : Hid (RefTo w rb rq gs s.pages (s.setPg i { s.page i with own := (s.page i).own - 1 }).pages s.aside (w.setCell ⟨rq, i * 3 + 1, none⟩ (.int .i64 ((s.page i).own - 1)))) :=
        ⟨⟨gs, RefMem.setOwn h hp ho _, fun q hq => .inl (rS_set hp ho hq)⟩, hu1⟩
      rw [Hs.out, Hn.out]
      have hb0 : ((s.page (i : Int)).own - 1 == 0) = false := beq_eq_false_iff_ne.2 (by omega)
      have hb1 : 1 ≤ (s.page (i : Int)).own := by omega
      have c0' : (w.setCell ⟨rq, i * 3 + 1, none⟩ (.int .i64 ((s.page (i : Int)).own - 1))).cell? ⟨rb, 0, none⟩ = some (.slice (some ⟨rq, 0, none⟩) s.pages.length s.pages.length) :=
        (World.cell?_setCell_other _ _ _ _ (fun e => by injection e with e _ _; exact hne e.symm)).trans c0
      clear h ho hp hk Hs Hn h1 hu1 cz
      show Calls _ _ _ _ fun e w' => e = .returned (.int .i64 0) ∧ RefTo w rb rq gs s.pages (s.setPg i _).pages s.aside w'
      generalize { s.page i with own := (s.page i).own - 1 } = pg at *
      generalize (s.page i).own = o at *
      generalize s.pages.length = m at *
      go_enter Try.func72, Try.ntmps72
      go_wp2_with (go_at_call 73; refine (Hf.out).mono ?_; rintro e w' ⟨rfl, rfl⟩)
      go_ret
      exact ⟨rfl, Hm.out⟩
end
end Go.Proofs.Ytelmolblcnolnaa
