/- One act on the program's pool and on the document's: both answer the same, and both are as the plain data says. Conditions: both lie in memory as the same plain data. -/
import Derived.Test.YtelmolblcnolnaaRefWalkC
import Derived.Test.YtelmolblcnolnaaPoolActs
import Derived.Test.YtelmolblcnolnaaWorks11
import Derived.Deep.RegionHeld3
namespace Go.Proofs.Ytelmolblcnolnaa
open Go.RowKit

/-- The blocks of both pools. -/
def bS (b bq rb rq : Nat) (gs : Nat → Nat) (l : List Pg) (k : Nat) : Prop := pS b bq k ∨ rS rb rq gs l k
/-- Both pools, as the same plain data. -/
structure Both (w : World) (b bq rb rq : Nat) (gs : Nat → Nat) (s : Pl) : Prop where
  p : PoolAt w b bq s
  r : RefAt w rb rq gs s
/-- What a step of both leaves. -/
structure BothTo (w : World) (b bq rb rq : Nat) (gs : Nat → Nat) (s : Pl) (c : Int) (w' : World) : Prop where
  ex : ∃ s' gs', Both w' b bq rb rq gs' s' ∧ s'.Ok c ∧ s'.pages.length = s.pages.length ∧ ∀ k, rS rb rq gs' s'.pages k → rS rb rq gs s.pages k ∨ w.heap.size ≤ k
  upd : Upd (bS b bq rb rq gs s.pages) w w'

section
variable {w w1 w2 : World} {b bq rb rq : Nat} {gs : Nat → Nat} {s s' : Pl} {c c' : Int} {S : Nat → Prop}
theorem Both.b_notR (h : Both w b bq rb rq gs s) : ¬ rS rb rq gs s.pages b := h.r.notIn ⟨_, h.p.hb⟩ (by decide) (by decide) (by decide)
theorem Both.q_notR (h : Both w b bq rb rq gs s) : ¬ rS rb rq gs s.pages bq := h.r.notIn h.p.tq (by decide) (by decide) (by decide)
theorem Both.upd (h : Both w b bq rb rq gs s) (hu : Upd S w w1) (hn : ∀ k, bS b bq rb rq gs s.pages k → ¬ S k) : Both w1 b bq rb rq gs s :=
  ⟨h.p.upd hu (hn b (.inl (.inl rfl))) (hn bq (.inl (.inr rfl))), RefMem.upd h.r hu (fun k hk => hn k (.inr hk))⟩
theorem Both.keep0 (h : Both w b bq rb rq gs s) (hu : Upd (fun _ => False) w w1) : Both w1 b bq rb rq gs s := h.upd hu (fun _ _ h => h)
theorem Both.ref_keep (h : Both w b bq rb rq gs s) (hu : Upd (pS b bq) w w1) : RefAt w1 rb rq gs s :=
  RefMem.upd h.r hu (fun k hk => by rintro (rfl | rfl); exact h.b_notR hk; exact h.q_notR hk)
theorem Both.lt (h : Both w b bq rb rq gs s) {k : Nat} (hk : bS b bq rb rq gs s.pages k) : k < w.heap.size := by
  rcases hk with (rfl | rfl) | hk
  · exact h.p.hb.lt
  · exact Blk.ex_lt h.p.tq
  · exact RefMem.lt h.r hk
theorem Both.step (h : Both w b bq rb rq gs s) (hp1 : PoolAt w1 b bq s') (hu1 : Upd (pS b bq) w w1) (hr2 : RefTo w1 rb rq gs s.pages s'.pages s'.aside w2) (hok : s'.Ok c) (hlen : s'.pages.length = s.pages.length) : BothTo w b bq rb rq gs s c w2 := by
  obtain ⟨gs', hm, hg⟩ := hr2.ex
  refine ⟨⟨s', gs', ⟨PoolMem.upd hp1 hr2.upd h.b_notR h.q_notR, hm⟩, hok, hlen, fun k hk => (hg k hk).imp (fun h => h) (fun h => Nat.le_trans hu1.size h)⟩, ?_⟩
  exact (hu1.mono (fun _ _ h => .inl h)).step hr2.upd (fun k hk _ => .inl (.inr hk))
theorem BothTo.same (h : Both w1 b bq rb rq gs s) (hu : Upd (bS b bq rb rq gs s.pages) w w1) (hok : s.Ok c) : BothTo w b bq rb rq gs s c w1 := ⟨⟨s, gs, h, hok, rfl, fun _ hk => .inl hk⟩, hu⟩
/-- The beginning may lie further back, before new blocks and draws. -/
theorem BothTo.back {w0 : World} (h : BothTo w b bq rb rq gs s c w1) (hu : Upd (fun _ => False) w0 w) : BothTo w0 b bq rb rq gs s c w1 := by
  obtain ⟨s', gs', h1, h2, h3, h4⟩ := h.ex
  exact ⟨⟨s', gs', h1, h2, h3, fun k hk => (h4 k hk).imp (fun h => h) (fun h => Nat.le_trans hu.size h)⟩, (hu.mono (fun _ _ h => h.elim)).trans h.upd⟩
/-- A later look that turns none of both. -/
theorem BothTo.on (h : BothTo w b bq rb rq gs s c w1) (hu : Upd (fun _ => False) w1 w2) : BothTo w b bq rb rq gs s c w2 := by
  obtain ⟨s', gs', h1, h2, h3, h4⟩ := h.ex
  exact ⟨⟨s', gs', h1.keep0 hu, h2, h3, h4⟩, h.upd.trans (hu.mono (fun _ _ h => h.elim))⟩
theorem BothTo.mono (h : BothTo w b bq rb rq gs s c w1) (hc : c ≤ c') : BothTo w b bq rb rq gs s c' w1 := by
  obtain ⟨s', gs', h1, h2, h3, h4⟩ := h.ex
  exact ⟨⟨s', gs', h1, h2.mono hc, h3, h4⟩, h.upd⟩

def ActPost (w : World) (b bq rb rq : Nat) (gs : Nat → Nat) (s : Pl) (c : Int) (e : Ending) (w' : World) : Prop := e = .returned (.bool true) ∧ BothTo w b bq rb rq gs s c w'

set_option maxHeartbeats 4000000 in
set_option maxRecDepth 100000 in
theorem act_any (h : Both w b bq rb rq gs s) (hok : s.Ok c) (hc1 : 1 ≤ c) (hc : c < 1000000) (o : Opd) :
    Calls Try.prog 29 #[.pointer (some ⟨b, 0, none⟩), .pointer (some ⟨rb, 0, none⟩), .agg o.vals.toArray] w (ActPost w b bq rb rq gs s (c + 1)) := by
  obtain ⟨okind, otag, on, ocell, ov⟩ := o
  have hua : Upd (fun _ => False) w (w.alloc (.cells #[.int .i64 okind, .string otag, .int .i64 on, .int .i64 ocell, .int .i64 ov] 31)) := (Upd.refl _ _).alloc _
  have HA := hid_ (h.keep0 hua)
  have Hua := hid_ hua
  have Hlt : Hid (∀ k, bS b bq rb rq gs s.pages k → k < w.heap.size) := fun k hk => h.lt hk
  have Hok := hid_ hok
  have hcc : c < 9223372036854775807 := by omega
  -- the act's own block is none of both pools'
  have HC : Hid (∀ (j : Nat) (x : Value) (S : Nat → Prop) (W : World), (∀ k, S k → bS b bq rb rq gs s.pages k) → Upd S (w.alloc (.cells #[.int .i64 okind, .string otag, .int .i64 on, .int .i64 ocell, .int .i64 ov] 31)) W →
      (#[.int .i64 okind, .string otag, .int .i64 on, .int .i64 ocell, .int .i64 ov] : Array Value)[j]? = some x → W.cell? ⟨w.heap.size, j, none⟩ = some x) := by
    intro j x S W hS hu hx
    rw [hu.cell (p := ⟨w.heap.size, j, none⟩) (by simp) (fun hk => by have := Hlt.out _ (hS _ hk); simp at this), (Blk.new w 31 _).cell, hx]
  clear h hua hok
  show Calls _ _ #[_, _, .agg #[.int .i64 okind, .string otag, .int .i64 on, .int .i64 ocell, .int .i64 ov]] _ _
  rcases (by omega : okind = 0 ∨ okind = 1 ∨ okind = 2 ∨ okind = 3 ∨ okind = 4 ∨ okind = 5 ∨ okind = 6 ∨ (okind ≠ 0 ∧ okind ≠ 1 ∧ okind ≠ 2 ∧ okind ≠ 3 ∧ okind ≠ 4 ∧ okind ≠ 5 ∧ okind ≠ 6)) with rfl | rfl | rfl | rfl | rfl | rfl | rfl | ⟨h0, h1, h2, h3, h4, h5, h6⟩
  · have HP := hid_ (take_any HA.out.p Hok.out otag on)
    have HT : ∀ w1, Hid (PoolAt w1 b bq (s.takeS otag on) → Upd (pS b bq) (w.alloc (.cells #[.int .i64 0, .string otag, .int .i64 on, .int .i64 ocell, .int .i64 ov] 31)) w1 → Calls Try.prog 68 #[.pointer (some ⟨rb, 0, none⟩), .string otag, .int .i64 on] w1 fun e w' =>
        ∃ v, e = .returned (.tuple #[v, .int .i64 (s.takeE otag on)]) ∧ OwnI w' w1.heap.size v (s.takeL otag on) ∧ RefTo w1 rb rq gs s.pages (s.takeS otag on).pages (s.takeS otag on).aside w') := fun w1 _ hu => rtake_any (HA.out.ref_keep hu) Hok.out otag on
    have hk' : (s.takeS otag on).Ok (c + 1) := (Hok.out.take (by omega) otag on).mono (by omega)
    have hl' := Pl.len_takeS s otag on
    have HS := hid_ (fun w1 w2 hp1 hu1 hr2 => (HA.out.step (w1 := w1) (w2 := w2) (s' := s.takeS otag on) hp1 hu1 hr2 hk' hl').back Hua.out)
    generalize s.takeE otag on = er at *
    generalize s.takeL otag on = L at *
    generalize s.takeS otag on = s' at *
    clear hk' hl' Hok
    go_enter Try.func29, Try.ntmps29
    go_wp2_with fail
    refine HP.out.mono ?_
    clear HP
    rintro e w3 ⟨v1, rfl, ho1, hp1, hu1⟩
    have HR := hid_ ((HT w3).out hp1 hu1)
    have HC3 := hid_ (HC.out 1 _ _ w3 (fun _ h => .inl h) hu1 rfl)
    have HC4 := hid_ (HC.out 2 _ _ w3 (fun _ h => .inl h) hu1 rfl)
    have c3 := HC3.out
    have c4 := HC4.out
    have Ho1 := hid_ ho1
    have Hp1 := hid_ hp1
    have Hu1 := hid_ hu1
    clear HT ho1 hp1 hu1
    go_wp2_with fail
    refine HR.out.mono ?_
    clear HR
    rintro e w4 ⟨v2, rfl, ho2, hr2⟩
    have HB := hid_ (HS.out w3 w4 Hp1.out Hu1.out hr2)
    have Ho1 := hid_ (own_upd (xs := L.map (Value.int .i64)) Ho1.out hr2.upd (fun k hk hb _ => by
      have h1 := Hlt.out k (.inr hk)
      simp at hb
      omega))
    have HX := hid_ (same_true (OwnI.rd Ho1.out) (OwnI.rd ho2) rfl)
    clear ho2 hr2 HS Hp1 Hu1 Ho1 c3 c4 HC3 HC4 HA Hua HC
    go_wp2_with fail
    refine HX.out.mono ?_
    rintro e w5 ⟨rfl, hu5⟩
    have HB := hid_ (HB.out.on hu5)
    clear hu5 HX
    go_wp2_with fail
    go_ret
    exact ⟨rfl, HB.out⟩
  · have HP := hid_ (reserve_any (HA.out.p.drewN 1) Hok.out on)
    have HT : ∀ w1, Hid (PoolAt w1 b bq (s.resS on) → Upd (pS b bq) ((w.alloc (.cells #[.int .i64 1, .string otag, .int .i64 on, .int .i64 ocell, .int .i64 ov] 31)).drewN 1) w1 → Calls Try.prog 69 #[.pointer (some ⟨rb, 0, none⟩), .int .i64 on] w1 fun e w' =>
        e = .returned (.int .i64 (s.resE on)) ∧ RefTo w1 rb rq gs s.pages (s.resS on).pages (s.resS on).aside w') := fun w1 _ hu => rreserve_any (HA.out.ref_keep (((Upd.refl _ _).drewN 1).trans hu)) Hok.out on
    have hk' : (s.resS on).Ok (c + 1) := (Hok.out.res on).mono (by omega)
    have hl' := Pl.len_resS s on
    have HS := hid_ (fun w1 w2 hp1 hu1 hr2 => (HA.out.step (w1 := w1) (w2 := w2) (s' := s.resS on) hp1 (((Upd.refl _ _).drewN 1).trans hu1) hr2 hk' hl').back Hua.out)
    generalize s.resE on = er at *
    generalize s.resS on = s' at *
    clear hk' hl' Hok
    go_enter Try.func29, Try.ntmps29
    go_wp2_with fail
    go_region_held3 (fun w' => w'.cell? ⟨w.heap.size, 2, none⟩ = some (.int .i64 on)) (go_keep) ((first | (go_at_call 19; refine HP.out.mono ?_; rintro e w3 ⟨rfl, hp1, hu1⟩; have ca2 := (HC.out 2 _ (pS b bq) w3 (fun _ h => .inl h) ((((Upd.refl _ _).drew)).trans hu1) rfl); have HR := hid_ ((HT w3).out hp1 hu1); have Hp1 := hid_ hp1; have Hu1 := hid_ hu1; clear hp1 hu1) | (go_at_call 69; refine HR.out.mono ?_; rintro e w4 ⟨rfl, hr2⟩; have cb2 := (HC.out 2 _ (bS b bq rb rq gs s.pages) w4 (fun _ h => h) (((((Upd.refl _ _).drew).trans (Hu1.out.mono (fun _ _ h => .inl h)))).trans (hr2.upd.mono (fun _ _ h => .inr h))) rfl); have HB := hid_ (HS.out w3 w4 Hp1.out Hu1.out hr2); clear hr2)))
    go_wp2_with fail
    go_ret
    exact ⟨rfl, HB.out⟩
  · have HP := hid_ (unreserve_any (HA.out.p.drewN 1) Hok.out on)
    have HT : ∀ w1, Hid (PoolAt w1 b bq (s.unresS on) → Upd (pS b bq) ((w.alloc (.cells #[.int .i64 2, .string otag, .int .i64 on, .int .i64 ocell, .int .i64 ov] 31)).drewN 1) w1 → Calls Try.prog 70 #[.pointer (some ⟨rb, 0, none⟩), .int .i64 on] w1 fun e w' =>
        e = .returned (.int .i64 (s.unresE on)) ∧ RefTo w1 rb rq gs s.pages (s.unresS on).pages (s.unresS on).aside w') := fun w1 _ hu => runreserve_any (HA.out.ref_keep (((Upd.refl _ _).drewN 1).trans hu)) Hok.out on
    have hk' : (s.unresS on).Ok (c + 1) := (Hok.out.unres on).mono (by omega)
    have hl' := Pl.len_unresS s on
    have HS := hid_ (fun w1 w2 hp1 hu1 hr2 => (HA.out.step (w1 := w1) (w2 := w2) (s' := s.unresS on) hp1 (((Upd.refl _ _).drewN 1).trans hu1) hr2 hk' hl').back Hua.out)
    generalize s.unresE on = er at *
    generalize s.unresS on = s' at *
    clear hk' hl' Hok
    go_enter Try.func29, Try.ntmps29
    go_wp2_with fail
    go_region_held3 (fun w' => w'.cell? ⟨w.heap.size, 2, none⟩ = some (.int .i64 on)) (go_keep) ((first | (go_at_call 20; refine HP.out.mono ?_; rintro e w3 ⟨rfl, hp1, hu1⟩; have ca2 := (HC.out 2 _ (pS b bq) w3 (fun _ h => .inl h) ((((Upd.refl _ _).drew)).trans hu1) rfl); have HR := hid_ ((HT w3).out hp1 hu1); have Hp1 := hid_ hp1; have Hu1 := hid_ hu1; clear hp1 hu1) | (go_at_call 70; refine HR.out.mono ?_; rintro e w4 ⟨rfl, hr2⟩; have cb2 := (HC.out 2 _ (bS b bq rb rq gs s.pages) w4 (fun _ h => h) (((((Upd.refl _ _).drew).trans (Hu1.out.mono (fun _ _ h => .inl h)))).trans (hr2.upd.mono (fun _ _ h => .inr h))) rfl); have HB := hid_ (HS.out w3 w4 Hp1.out Hu1.out hr2); clear hr2)))
    go_wp2_with fail
    go_ret
    exact ⟨rfl, HB.out⟩
  · have HP := hid_ (draw_any HA.out.p Hok.out otag on)
    have HT : ∀ w1, Hid (PoolAt w1 b bq (s.drawS otag on) → Upd (pS b bq) (w.alloc (.cells #[.int .i64 3, .string otag, .int .i64 on, .int .i64 ocell, .int .i64 ov] 31)) w1 → Calls Try.prog 71 #[.pointer (some ⟨rb, 0, none⟩), .string otag, .int .i64 on] w1 fun e w' =>
        ∃ v, e = .returned (.tuple #[v, .int .i64 (s.drawE otag on)]) ∧ OwnI w' w1.heap.size v (s.drawL otag on) ∧ RefTo w1 rb rq gs s.pages (s.drawS otag on).pages (s.drawS otag on).aside w') := fun w1 _ hu => rdraw_any (HA.out.ref_keep hu) Hok.out otag on
    have hk' : (s.drawS otag on).Ok (c + 1) := (Hok.out.draw (by omega) otag on).mono (by omega)
    have hl' := Pl.len_drawS s otag on
    have HS := hid_ (fun w1 w2 hp1 hu1 hr2 => (HA.out.step (w1 := w1) (w2 := w2) (s' := s.drawS otag on) hp1 hu1 hr2 hk' hl').back Hua.out)
    generalize s.drawE otag on = er at *
    generalize s.drawL otag on = L at *
    generalize s.drawS otag on = s' at *
    clear hk' hl' Hok
    go_enter Try.func29, Try.ntmps29
    go_wp2_with fail
    refine HP.out.mono ?_
    clear HP
    rintro e w3 ⟨v1, rfl, ho1, hp1, hu1⟩
    have HR := hid_ ((HT w3).out hp1 hu1)
    have HC3 := hid_ (HC.out 1 _ _ w3 (fun _ h => .inl h) hu1 rfl)
    have HC4 := hid_ (HC.out 2 _ _ w3 (fun _ h => .inl h) hu1 rfl)
    have c3 := HC3.out
    have c4 := HC4.out
    have Ho1 := hid_ ho1
    have Hp1 := hid_ hp1
    have Hu1 := hid_ hu1
    clear HT ho1 hp1 hu1
    go_wp2_with fail
    refine HR.out.mono ?_
    clear HR
    rintro e w4 ⟨v2, rfl, ho2, hr2⟩
    have HB := hid_ (HS.out w3 w4 Hp1.out Hu1.out hr2)
    have Ho1 := hid_ (own_upd (xs := L.map (Value.int .i64)) Ho1.out hr2.upd (fun k hk hb _ => by
      have h1 := Hlt.out k (.inr hk)
      simp at hb
      omega))
    have HX := hid_ (same_true (OwnI.rd Ho1.out) (OwnI.rd ho2) rfl)
    clear ho2 hr2 HS Hp1 Hu1 Ho1 c3 c4 HC3 HC4 HA Hua HC
    go_wp2_with fail
    refine HX.out.mono ?_
    rintro e w5 ⟨rfl, hu5⟩
    have HB := hid_ (HB.out.on hu5)
    clear hu5 HX
    go_wp2_with fail
    go_ret
    exact ⟨rfl, HB.out⟩
  · have HP := hid_ (share_any (HA.out.p.drewN 1) Hok.out hcc on)
    have HT : ∀ w1, Hid (PoolAt w1 b bq (s.shareS on) → Upd (pS b bq) ((w.alloc (.cells #[.int .i64 4, .string otag, .int .i64 on, .int .i64 ocell, .int .i64 ov] 31)).drewN 1) w1 → Calls Try.prog 44 #[.pointer (some ⟨rb, 0, none⟩), .int .i64 on] w1 fun e w' =>
        e = .returned (.int .i64 (s.noneE on)) ∧ RefTo w1 rb rq gs s.pages (s.shareS on).pages (s.shareS on).aside w') := fun w1 _ hu => rshare_any (HA.out.ref_keep (((Upd.refl _ _).drewN 1).trans hu)) Hok.out hcc on
    have hk' : (s.shareS on).Ok (c + 1) := (Hok.out.share on).mono (by omega)
    have hl' := Pl.len_shareS s on
    have HS := hid_ (fun w1 w2 hp1 hu1 hr2 => (HA.out.step (w1 := w1) (w2 := w2) (s' := s.shareS on) hp1 (((Upd.refl _ _).drewN 1).trans hu1) hr2 hk' hl').back Hua.out)
    generalize s.noneE on = er at *
    generalize s.shareS on = s' at *
    clear hk' hl' Hok
    go_enter Try.func29, Try.ntmps29
    go_wp2_with fail
    go_region_held3 (fun w' => w'.cell? ⟨w.heap.size, 2, none⟩ = some (.int .i64 on)) (go_keep) ((first | (go_at_call 22; refine HP.out.mono ?_; rintro e w3 ⟨rfl, hp1, hu1⟩; have ca2 := (HC.out 2 _ (pS b bq) w3 (fun _ h => .inl h) ((((Upd.refl _ _).drew)).trans hu1) rfl); have HR := hid_ ((HT w3).out hp1 hu1); have Hp1 := hid_ hp1; have Hu1 := hid_ hu1; clear hp1 hu1) | (go_at_call 44; refine HR.out.mono ?_; rintro e w4 ⟨rfl, hr2⟩; have cb2 := (HC.out 2 _ (bS b bq rb rq gs s.pages) w4 (fun _ h => h) (((((Upd.refl _ _).drew).trans (Hu1.out.mono (fun _ _ h => .inl h)))).trans (hr2.upd.mono (fun _ _ h => .inr h))) rfl); have HB := hid_ (HS.out w3 w4 Hp1.out Hu1.out hr2); clear hr2)))
    go_wp2_with fail
    go_ret
    exact ⟨rfl, HB.out⟩
  · have HP := hid_ (drop_any (HA.out.p.drewN 1) Hok.out hcc on)
    have HT : ∀ w1, Hid (PoolAt w1 b bq (s.dropS on) → Upd (pS b bq) ((w.alloc (.cells #[.int .i64 5, .string otag, .int .i64 on, .int .i64 ocell, .int .i64 ov] 31)).drewN 1) w1 → Calls Try.prog 72 #[.pointer (some ⟨rb, 0, none⟩), .int .i64 on] w1 fun e w' =>
        e = .returned (.int .i64 (s.noneE on)) ∧ RefTo w1 rb rq gs s.pages (s.dropS on).pages (s.dropS on).aside w') := fun w1 _ hu => rdrop_any (HA.out.ref_keep (((Upd.refl _ _).drewN 1).trans hu)) Hok.out hcc on
    have hk' : (s.dropS on).Ok (c + 1) := (Hok.out.drop on (by omega)).mono (by omega)
    have hl' := Pl.len_dropS s on
    have HS := hid_ (fun w1 w2 hp1 hu1 hr2 => (HA.out.step (w1 := w1) (w2 := w2) (s' := s.dropS on) hp1 (((Upd.refl _ _).drewN 1).trans hu1) hr2 hk' hl').back Hua.out)
    generalize s.noneE on = er at *
    generalize s.dropS on = s' at *
    clear hk' hl' Hok
    go_enter Try.func29, Try.ntmps29
    go_wp2_with fail
    go_region_held3 (fun w' => w'.cell? ⟨w.heap.size, 2, none⟩ = some (.int .i64 on)) (go_keep) ((first | (go_at_call 16; refine HP.out.mono ?_; rintro e w3 ⟨rfl, hp1, hu1⟩; have ca2 := (HC.out 2 _ (pS b bq) w3 (fun _ h => .inl h) ((((Upd.refl _ _).drew)).trans hu1) rfl); have HR := hid_ ((HT w3).out hp1 hu1); have Hp1 := hid_ hp1; have Hu1 := hid_ hu1; clear hp1 hu1) | (go_at_call 72; refine HR.out.mono ?_; rintro e w4 ⟨rfl, hr2⟩; have cb2 := (HC.out 2 _ (bS b bq rb rq gs s.pages) w4 (fun _ h => h) (((((Upd.refl _ _).drew).trans (Hu1.out.mono (fun _ _ h => .inl h)))).trans (hr2.upd.mono (fun _ _ h => .inr h))) rfl); have HB := hid_ (HS.out w3 w4 Hp1.out Hu1.out hr2); clear hr2)))
    go_wp2_with fail
    go_ret
    exact ⟨rfl, HB.out⟩
  · have HP := hid_ (put_any (HA.out.p.drewN 1) Hok.out.len on ocell ov)
    have HT : ∀ w1, Hid (PoolAt w1 b bq (s.putS on ocell ov) → Upd (pS b bq) ((w.alloc (.cells #[.int .i64 6, .string otag, .int .i64 on, .int .i64 ocell, .int .i64 ov] 31)).drewN 1) w1 → Calls Try.prog 45 #[.pointer (some ⟨rb, 0, none⟩), .int .i64 on, .int .i64 ocell, .int .i64 ov] w1 fun e w' =>
        e = .returned (.int .i64 (s.cellE on ocell)) ∧ RefTo w1 rb rq gs s.pages (s.putS on ocell ov).pages (s.putS on ocell ov).aside w') := fun w1 _ hu => rput_any (HA.out.ref_keep (((Upd.refl _ _).drewN 1).trans hu)) Hok.out on ocell ov
    have hk' : (s.putS on ocell ov).Ok (c + 1) := (Hok.out.put on ocell ov).mono (by omega)
    have hl' := Pl.len_putS s on ocell ov
    have HS := hid_ (fun w1 w2 hp1 hu1 hr2 => (HA.out.step (w1 := w1) (w2 := w2) (s' := s.putS on ocell ov) hp1 (((Upd.refl _ _).drewN 1).trans hu1) hr2 hk' hl').back Hua.out)
    generalize s.cellE on ocell = er at *
    generalize s.putS on ocell ov = s' at *
    clear hk' hl' Hok
    go_enter Try.func29, Try.ntmps29
    go_wp2_with fail
    go_region_held3 (fun w' => w'.cell? ⟨w.heap.size, 2, none⟩ = some (.int .i64 on) ∧ w'.cell? ⟨w.heap.size, 3, none⟩ = some (.int .i64 ocell) ∧ w'.cell? ⟨w.heap.size, 4, none⟩ = some (.int .i64 ov)) (go_keep) ((first | (go_at_call 26; refine HP.out.mono ?_; rintro e w3 ⟨rfl, hp1, hu1⟩; have ca2 := (HC.out 2 _ (pS b bq) w3 (fun _ h => .inl h) ((((Upd.refl _ _).drew)).trans hu1) rfl); have ca3 := (HC.out 3 _ (pS b bq) w3 (fun _ h => .inl h) ((((Upd.refl _ _).drew)).trans hu1) rfl); have ca4 := (HC.out 4 _ (pS b bq) w3 (fun _ h => .inl h) ((((Upd.refl _ _).drew)).trans hu1) rfl); have HR := hid_ ((HT w3).out hp1 hu1); have Hp1 := hid_ hp1; have Hu1 := hid_ hu1; clear hp1 hu1) | (go_at_call 45; refine HR.out.mono ?_; rintro e w4 ⟨rfl, hr2⟩; have cb2 := (HC.out 2 _ (bS b bq rb rq gs s.pages) w4 (fun _ h => h) (((((Upd.refl _ _).drew).trans (Hu1.out.mono (fun _ _ h => .inl h)))).trans (hr2.upd.mono (fun _ _ h => .inr h))) rfl); have cb3 := (HC.out 3 _ (bS b bq rb rq gs s.pages) w4 (fun _ h => h) (((((Upd.refl _ _).drew).trans (Hu1.out.mono (fun _ _ h => .inl h)))).trans (hr2.upd.mono (fun _ _ h => .inr h))) rfl); have cb4 := (HC.out 4 _ (bS b bq rb rq gs s.pages) w4 (fun _ h => h) (((((Upd.refl _ _).drew).trans (Hu1.out.mono (fun _ _ h => .inl h)))).trans (hr2.upd.mono (fun _ _ h => .inr h))) rfl); have HB := hid_ (HS.out w3 w4 Hp1.out Hu1.out hr2); clear hr2)))
    go_wp2_with fail
    go_ret
    exact ⟨rfl, HB.out⟩
  · have b0 : (okind == 0) = false := beq_eq_false_iff_ne.2 h0
    have b1 : (okind == 1) = false := beq_eq_false_iff_ne.2 h1
    have b2 : (okind == 2) = false := beq_eq_false_iff_ne.2 h2
    have b3 : (okind == 3) = false := beq_eq_false_iff_ne.2 h3
    have b4 : (okind == 4) = false := beq_eq_false_iff_ne.2 h4
    have b5 : (okind == 5) = false := beq_eq_false_iff_ne.2 h5
    have b6 : (okind == 6) = false := beq_eq_false_iff_ne.2 h6
    have HB : Hid (BothTo w b bq rb rq gs s (c + 1) (w.alloc (.cells #[.int .i64 okind, .string otag, .int .i64 on, .int .i64 ocell, .int .i64 ov] 31))) := (BothTo.same HA.out (Hua.out.mono (fun _ _ h => h.elim)) (Hok.out.mono (by omega)))
    clear h0 h1 h2 h3 h4 h5 h6 HA Hua Hlt Hok HC
    go_enter Try.func29, Try.ntmps29
    go_wp2_with fail
    go_ret
    exact ⟨rfl, HB.out⟩
end
end Go.Proofs.Ytelmolblcnolnaa
