/- The document's pool's Take, Draw, Reserve, Unreserve, New, walked. Conditions: the pool lies in memory as 'RefAt' says, and is sound ('Pl.Ok'); for New: none. -/
import Derived.Test.YtelmolblcnolnaaRefWalkB
namespace Go.Proofs.Ytelmolblcnolnaa
open Go.RowKit

section
variable {w : World} {rb rq : Nat} {gs : Nat → Nat} {s : Pl} {c : Int}

theorem rtake_any_core (h : RefAt w rb rq gs s) (hk : s.Ok c) (tag : ByteArray) (k : Int) (hk0 : 0 ≤ k) (hkf : k ≤ s.free) :
    Calls Try.prog 91 #[.pointer (some ⟨rb, 0, none⟩), .string tag, .int .i64 k] w fun e w' =>
      ∃ v, e = .returned v ∧ OwnI w' w.heap.size v ((s.takeIx k).map (fun (j : Nat) => (j : Int))) ∧ RefTo w rb rq gs s.pages (s.takeAll tag k).pages s.aside w' := by
  obtain ⟨n, rfl⟩ := Int.eq_ofNat_of_zero_le hk0
  have hfl := Pl.free_le s
  have hlen := hk.len
  refine (rtake_core h hk.len n (by unfold Pl.free at hkf; omega) tag).mono ?_
  rintro e w' ⟨v, he, ho, hr⟩
  obtain ⟨gs', hm, hg⟩ := hr.ex
  refine ⟨v, he, ?_, ⟨gs', hm, fun q hq => rS_take hg hq⟩, hr.upd.mono (fun q _ hq => .inr (.inl hq))⟩
  unfold OwnI
  rw [← natVals_ints, List.length_map, Pl.takeIx]
  have e : ((freeIx s.pages s.pages.length).take (n : Int).toNat).length = n := by
    rw [List.length_take]; unfold Pl.free at hkf; omega
  rw [e]
  exact ho
theorem RefTo.drewN {l l' : List Pg} {a' : Int} {n : Nat} {w' : World} (h : RefTo (w.drewN n) rb rq gs l l' a' w') : RefTo w rb rq gs l l' a' w' :=
  ⟨h.ex, ((Upd.refl _ _).drewN n).trans h.upd⟩

set_option maxHeartbeats 400000 in
theorem rtake_any (h : RefAt w rb rq gs s) (hk : s.Ok c) (tag : ByteArray) (k : Int) :
    Calls Try.prog 68 #[.pointer (some ⟨rb, 0, none⟩), .string tag, .int .i64 k] w fun e w' =>
      ∃ v, e = .returned (.tuple #[v, .int .i64 (s.takeE tag k)]) ∧ OwnI w' w.heap.size v (s.takeL tag k) ∧ RefTo w rb rq gs s.pages (s.takeS tag k).pages (s.takeS tag k).aside w' := by
  have c1 := RefMem.c1 h
  have ha0 := hk.a0
  have ha1 := hk.a1
  have hfl := Pl.free_le s
  have hlen := hk.len
  have Hfr := fun n => hid_ (rfree_any (h.drewN n) hk.len)
  by_cases he : s.takeE tag k = 0
  · obtain ⟨ht, hk0, hkf⟩ := Pl.ask_zero he
    have Hc := fun n => hid_ (rtake_any_core (h.drewN n) hk tag k hk0 (by omega))
    have HL : Hid (s.takeL tag k = (s.takeIx k).map (fun (j : Nat) => (j : Int))) := by unfold Hid Pl.takeL; rw [if_pos he]
    have HS : Hid (s.takeS tag k = s.takeAll tag k) := by unfold Hid Pl.takeS; rw [if_pos he]
    rw [he, HL.out, HS.out]
    show Calls _ _ _ _ fun e w' => ∃ v, e = _ ∧ _ ∧ RefTo w rb rq gs s.pages (s.takeAll tag k).pages s.aside w'
    have e1 : (tag.toList == []) = false := by rw [ByteArray.toList_eq]; simpa using ht
    have e2 : tag.toList.isEmpty = false := by rw [ByteArray.toList_eq]; simpa using ht
    have e3 : ¬ (s.free - s.aside < k) := by omega
    clear h hk ht he HL HS
    generalize s.free = fr at *
    generalize s.aside = asd at *
    go_enter Try.func68, Try.ntmps68
    go_wp2_with fail
    go_quiet ((go_at_call 74; exact Calls.quiet_of_same (Calls.mono (Hfr _).out (fun _ _ ⟨x, y⟩ => ⟨x, y.symm⟩))))
    go_wp2_with fail
    refine (Hc _).out.mono ?_
    rintro e w' ⟨v, rfl, ho, hr⟩
    have Ho := hid_ ho
    have Hr := hid_ hr
    clear ho hr
    go_wp2_with fail
    go_ret2
    exact ⟨v, rfl, Ho.out, Hr.out.drewN⟩
  · have HL : Hid (s.takeL tag k = []) := by unfold Hid Pl.takeL; rw [if_neg he]
    have HS : Hid (s.takeS tag k = s) := by unfold Hid Pl.takeS; rw [if_neg he]
    have Hr : Hid (∀ n, RefTo w rb rq gs s.pages s.pages s.aside (w.drewN n)) := fun n => RefTo.same (h.drewN n) ((Upd.refl _ _).drewN n)
    rw [HL.out, HS.out]
    by_cases hx : tag.data.toList = [] ∨ k < 0
    · have HE : Hid (s.takeE tag k = 20) := by unfold Hid Pl.takeE Pl.ask; rw [if_pos hx]
      rw [HE.out]
      clear h hk he HL HS HE
      have hx2 : tag.toList.isEmpty = true ∨ (tag.toList.isEmpty = false ∧ k < 0) := by
        rw [ByteArray.toList_eq]
        by_cases h1 : tag.data.toList = []
        · exact .inl (by rw [h1]; rfl)
        · exact .inr ⟨by simpa using h1, hx.resolve_left h1⟩
      clear hx
      rcases hx2 with hx | ⟨hx, hx3⟩
      · have hx' : (tag.toList == []) = true := by simpa using hx
        go_enter Try.func68, Try.ntmps68
        go_wp2_with fail
        go_ret2
        exact ⟨_, rfl, OwnI.nil _ _, Hr.out 0⟩
      · have hx' : (tag.toList == []) = false := by simpa using hx
        go_enter Try.func68, Try.ntmps68
        go_wp2_with fail
        go_ret2
        exact ⟨_, rfl, OwnI.nil _ _, Hr.out 0⟩
    · have hlt : s.free - s.aside < k := by
        unfold Pl.takeE Pl.ask at he
        rw [if_neg hx] at he
        by_cases h1 : s.free - s.aside < k
        · exact h1
        · rw [if_neg h1] at he; exact absurd rfl he
      have HE : Hid (s.takeE tag k = 6) := by unfold Hid Pl.takeE Pl.ask; rw [if_neg hx, if_pos hlt]
      rw [HE.out]
      have e1 : (tag.toList == []) = false := by rw [ByteArray.toList_eq]; simp; exact fun h => hx (.inl (by simpa using h))
      have e2 : tag.toList.isEmpty = false := by rw [ByteArray.toList_eq]; simp; exact fun h => hx (.inl (by simpa using h))
      have e4 : 0 ≤ k := by omega
      clear h hk he HL HS HE hx
      generalize s.free = fr at *
      generalize s.aside = asd at *
      go_enter Try.func68, Try.ntmps68
      go_wp2_with fail
      go_quiet ((go_at_call 74; exact Calls.quiet_of_same (Calls.mono (Hfr _).out (fun _ _ ⟨x, y⟩ => ⟨x, y.symm⟩))))
      go_wp2_with fail
      go_ret2
      exact ⟨_, rfl, OwnI.nil _ _, Hr.out _⟩

set_option maxHeartbeats 400000 in
theorem rdraw_any (h : RefAt w rb rq gs s) (hk : s.Ok c) (tag : ByteArray) (k : Int) :
    Calls Try.prog 71 #[.pointer (some ⟨rb, 0, none⟩), .string tag, .int .i64 k] w fun e w' =>
      ∃ v, e = .returned (.tuple #[v, .int .i64 (s.drawE tag k)]) ∧ OwnI w' w.heap.size v (s.drawL tag k) ∧ RefTo w rb rq gs s.pages (s.drawS tag k).pages (s.drawS tag k).aside w' := by
  have c1 := RefMem.c1 h
  have ha0 := hk.a0
  have ha1 := hk.a1
  have hfl := Pl.free_le s
  have hlen := hk.len
  by_cases he : s.drawE tag k = 0
  · obtain ⟨ht, hk0, hkf⟩ := Pl.ask_zero he
    have f1 := RefMem.fb h 1
    have hm := RefMem.setAside h (s.aside - k)
    have Hc := hid_ (rtake_any_core (s := { s with aside := s.aside - k }) hm (c := c) ⟨hk.len, by show 0 ≤ s.aside - k; omega, by show s.aside - k ≤ s.free; omega, hk.own, hk.cells, hk.tag0⟩ tag k hk0 (by show k ≤ s.free; omega))
    have HL : Hid (s.drawL tag k = (s.takeIx k).map (fun (j : Nat) => (j : Int))) := by unfold Hid Pl.drawL; rw [if_pos he]
    have HS : Hid (s.drawS tag k = { s.takeAll tag k with aside := s.aside - k }) := by unfold Hid Pl.drawS; rw [if_pos he]
    have Hu1 : Hid (Upd (rS rb rq gs s.pages) w (w.setCell ⟨rb, 1, none⟩ (.int .i64 (s.aside - k)))) := (Upd.refl _ _).setCell (.inl (.inl rfl)) _
    rw [he, HL.out, HS.out]
    show Calls _ _ _ _ fun e w' => ∃ v, e = _ ∧ _ ∧ RefTo w rb rq gs s.pages (s.takeAll tag k).pages (s.aside - k) w'
    have e1 : (tag.toList == []) = false := by rw [ByteArray.toList_eq]; simpa using ht
    have e2 : tag.toList.isEmpty = false := by rw [ByteArray.toList_eq]; simpa using ht
    clear h hk ht he HL HS hm
    go_enter Try.func71, Try.ntmps71
    go_wp2_with fail
    refine Hc.out.mono ?_
    rintro e w' ⟨v, rfl, ho, hr⟩
    have Ho := hid_ ho
    have Hr := hid_ hr
    clear ho hr
    go_wp2_with fail
    go_ret2
    refine ⟨v, rfl, own_base Ho.out (by simp [World.setCell]), ?_, Hu1.out.trans Hr.out.upd⟩
    obtain ⟨gs', h1, h2⟩ := Hr.out.ex
    exact ⟨gs', h1, fun q hq => (h2 q hq).imp (fun h => h) (fun h => by simpa [World.setCell] using h)⟩
  · have HL : Hid (s.drawL tag k = []) := by unfold Hid Pl.drawL; rw [if_neg he]
    have HS : Hid (s.drawS tag k = s) := by unfold Hid Pl.drawS; rw [if_neg he]
    have Hr : Hid (RefTo w rb rq gs s.pages s.pages s.aside w) := RefTo.same h (Upd.refl _ _)
    rw [HL.out, HS.out]
    by_cases hx : tag.data.toList = [] ∨ k < 0
    · have HE : Hid (s.drawE tag k = 20) := by unfold Hid Pl.drawE Pl.ask; rw [if_pos hx]
      rw [HE.out]
      clear h hk he HL HS HE
      have hx2 : tag.toList.isEmpty = true ∨ (tag.toList.isEmpty = false ∧ k < 0) := by
        rw [ByteArray.toList_eq]
        by_cases h1 : tag.data.toList = []
        · exact .inl (by rw [h1]; rfl)
        · exact .inr ⟨by simpa using h1, hx.resolve_left h1⟩
      clear hx
      rcases hx2 with hx | ⟨hx, hx3⟩
      · have hx' : (tag.toList == []) = true := by simpa using hx
        go_enter Try.func71, Try.ntmps71
        go_wp2_with fail
        go_ret2
        exact ⟨_, rfl, OwnI.nil _ _, Hr.out⟩
      · have hx' : (tag.toList == []) = false := by simpa using hx
        go_enter Try.func71, Try.ntmps71
        go_wp2_with fail
        go_ret2
        exact ⟨_, rfl, OwnI.nil _ _, Hr.out⟩
    · have hlt : s.aside < k := by
        unfold Pl.drawE Pl.ask at he
        rw [if_neg hx] at he
        by_cases h1 : s.aside < k
        · exact h1
        · rw [if_neg h1] at he; exact absurd rfl he
      have HE : Hid (s.drawE tag k = 6) := by unfold Hid Pl.drawE Pl.ask; rw [if_neg hx, if_pos hlt]
      rw [HE.out]
      have e1 : (tag.toList == []) = false := by rw [ByteArray.toList_eq]; simp; exact fun h => hx (.inl (by simpa using h))
      have e2 : tag.toList.isEmpty = false := by rw [ByteArray.toList_eq]; simp; exact fun h => hx (.inl (by simpa using h))
      have e4 : 0 ≤ k := by omega
      clear h hk he HL HS HE hx
      generalize s.free = fr at *
      generalize s.aside = asd at *
      go_enter Try.func71, Try.ntmps71
      go_wp2_with fail
      go_ret2
      exact ⟨_, rfl, OwnI.nil _ _, Hr.out⟩

set_option maxHeartbeats 400000 in
theorem rreserve_any (h : RefAt w rb rq gs s) (hk : s.Ok c) (k : Int) :
    Calls Try.prog 69 #[.pointer (some ⟨rb, 0, none⟩), .int .i64 k] w fun e w' =>
      e = .returned (.int .i64 (s.resE k)) ∧ RefTo w rb rq gs s.pages (s.resS k).pages (s.resS k).aside w' := by
  have c1 := RefMem.c1 h
  have f1 := RefMem.fb h 1
  have ha0 := hk.a0
  have ha1 := hk.a1
  have hfl := Pl.free_le s
  have hlen := hk.len
  have Hfr := fun n => hid_ (rfree_any (h.drewN n) hk.len)
  have Hr : Hid (∀ n, RefTo w rb rq gs s.pages s.pages s.aside (w.drewN n)) := fun n => RefTo.same (h.drewN n) ((Upd.refl _ _).drewN n)
  by_cases h0 : k < 0
  · have he : s.resE k = 20 := by unfold Pl.resE; rw [if_pos h0]
    have HS : Hid (s.resS k = s) := by unfold Hid Pl.resS; rw [if_neg (by rw [he]; decide)]
    rw [he, HS.out]
    clear h hk he HS
    go_enter Try.func69, Try.ntmps69
    go_wp2_with fail
    go_ret
    exact ⟨rfl, Hr.out 0⟩
  · by_cases h1 : s.free - s.aside < k
    · have he : s.resE k = 6 := by unfold Pl.resE; rw [if_neg h0, if_pos h1]
      have HS : Hid (s.resS k = s) := by unfold Hid Pl.resS; rw [if_neg (by rw [he]; decide)]
      rw [he, HS.out]
      clear h hk he HS
      generalize s.free = fr at *
      generalize s.aside = asd at *
      go_enter Try.func69, Try.ntmps69
      go_wp2_with fail
      go_quiet ((go_at_call 74; exact Calls.quiet_of_same (Calls.mono (Hfr _).out (fun _ _ ⟨x, y⟩ => ⟨x, y.symm⟩))))
      go_wp2_with fail
      go_ret
      exact ⟨rfl, Hr.out _⟩
    · have he : s.resE k = 0 := by unfold Pl.resE; rw [if_neg h0, if_neg h1]
      have HS : Hid (s.resS k = { s with aside := s.aside + k }) := by unfold Hid Pl.resS; rw [if_pos he]
      have HM : Hid (∀ n, RefTo w rb rq gs s.pages s.pages (s.aside + k) ((w.drewN n).setCell ⟨rb, 1, none⟩ (.int .i64 (s.aside + k)))) := fun n =>
        ⟨⟨gs, RefMem.setAside (h.drewN n) _, fun q hq => .inl hq⟩, ((Upd.refl _ _).drewN n).setCell (.inl (.inl rfl)) _⟩
      rw [he, HS.out]
      clear h hk he HS Hr
      show Calls _ _ _ _ fun e w' => e = _ ∧ RefTo w rb rq gs s.pages s.pages (s.aside + k) w'
      generalize s.free = fr at *
      generalize s.aside = asd at *
      go_enter Try.func69, Try.ntmps69
      go_wp2_with fail
      go_quiet ((go_at_call 74; exact Calls.quiet_of_same (Calls.mono (Hfr _).out (fun _ _ ⟨x, y⟩ => ⟨x, y.symm⟩))))
      go_wp2_with fail
      go_ret
      exact ⟨rfl, HM.out _⟩

set_option maxHeartbeats 400000 in
theorem runreserve_any (h : RefAt w rb rq gs s) (hk : s.Ok c) (k : Int) :
    Calls Try.prog 70 #[.pointer (some ⟨rb, 0, none⟩), .int .i64 k] w fun e w' =>
      e = .returned (.int .i64 (s.unresE k)) ∧ RefTo w rb rq gs s.pages (s.unresS k).pages (s.unresS k).aside w' := by
  have c1 := RefMem.c1 h
  have f1 := RefMem.fb h 1
  have ha0 := hk.a0
  have ha1 := hk.a1
  have hfl := Pl.free_le s
  have hlen := hk.len
  by_cases hx : k < 0 ∨ s.aside < k
  · have he : s.unresE k = 20 := by unfold Pl.unresE; rw [if_pos hx]
    have HS : Hid (s.unresS k = s) := by unfold Hid Pl.unresS; rw [if_neg (by rw [he]; decide)]
    have Hr : Hid (RefTo w rb rq gs s.pages s.pages s.aside w) := RefTo.same h (Upd.refl _ _)
    rw [HS.out, he]
    clear h hk he HS
    rcases hx with hx | hx
    all_goals
      go_enter Try.func70, Try.ntmps70
      go_wp2_with fail
      go_ret
      exact ⟨rfl, Hr.out⟩
  · have he : s.unresE k = 0 := by unfold Pl.unresE; rw [if_neg hx]
    have HS : Hid (s.unresS k = { s with aside := s.aside - k }) := by unfold Hid Pl.unresS; rw [if_pos he]
    have HM : Hid (RefTo w rb rq gs s.pages s.pages (s.aside - k) (w.setCell ⟨rb, 1, none⟩ (.int .i64 (s.aside - k)))) :=
      ⟨⟨gs, RefMem.setAside h _, fun q hq => .inl hq⟩, (Upd.refl _ _).setCell (.inl (.inl rfl)) _⟩
    have h1 : 0 ≤ k := by omega
    have h2 : k ≤ s.aside := by omega
    rw [HS.out, he]
    clear h hk he HS hx
    go_enter Try.func70, Try.ntmps70
    go_wp2_with fail
    go_ret
    exact ⟨rfl, HM.out⟩

theorem rmade_zero (n i j : Nat) (hi : i < n) (hj : j < 3) : (madeCells rzero.toArray (n * 3))[i * 3 + j]? = rzero[j]? := by
  have hz : rzero.toArray.size = 3 := rfl
  have hlt : i * 3 + j < n * 3 := by omega
  unfold madeCells
  rw [Array.getElem?_map, Array.getElem?_range, if_pos hlt, Option.map_some, hz]
  have e : (i * 3 + j) % 3 = j := by omega
  rw [e]
  have hv : j < rzero.length := hj
  rw [List.getElem?_eq_getElem hv]
  simp [hv]

def RNewPost (n : Int) (w : World) (e : Ending) (w' : World) : Prop :=
  ∃ rb rq gs, e = .returned (.tuple #[.pointer (some ⟨rb, 0, none⟩), .int .i64 0]) ∧ RefAt w' rb rq gs (Pl.new n) ∧ Below w.heap.size w w' ∧ ∀ k, rS rb rq gs (Pl.new n).pages k → w.heap.size ≤ k

set_option maxHeartbeats 800000 in
set_option maxRecDepth 100000 in
theorem rnew_any (n : Int) (w : World) (hn : Pl.newE n = 0) : Calls Try.prog 28 #[.int .i64 n] w (RNewPost n w) := by
  have hb : 1 ≤ n ∧ n ≤ 256 := by
    unfold Pl.newE at hn
    by_cases h1 : n < 1 ∨ 256 < n
    · rw [if_pos h1] at hn; cases hn
    · omega
  obtain ⟨h1, h2⟩ := hb
  obtain ⟨m, rfl⟩ := Int.eq_ofNat_of_zero_le (show 0 ≤ n by omega)
  obtain ⟨i0, hi0, hz0, hz1, hz2⟩ := info_parts Try.infoRPage
  clear hn
  go_enter Try.func28, Try.ntmps28
  go_wp2_with (at_make; refine wpList_make_full _ rfl _ _ 105 rfl w.heap.size 111 i0 (.agg rzero.toArray) 3 Try.underlying105 hi0 hz0 hz1 _ _ _ _ m rfl rfl rfl rfl ?b2 ?b3 (Nat.le_refl _) ?_)
  case b2 => rw [hz2]; omega
  case b3 => unfold maxLen; omega
  intro w0 hown0 hgrow0
  rcases hown0.2 with ⟨h1, _⟩ | ⟨g, cap, cur, hv, hg, hh, hc, hm, hz, ht⟩
  · cases h1
  injection hv with hv _ hcap
  injection hv with hv
  injection hv with hv _ _
  subst hv hcap
  rw [List.take_of_length_le (by rw [Array.length_toList]; omega)] at ht
  have hcur : cur = madeCells rzero.toArray (m * 3) := Array.toList_inj.1 ht
  subst hcur
  have hsz : w.heap.size < w0.heap.size := Blk.lt (w := w0) hh
  have Hh := hid_ hh
  have Hg := hid_ hgrow0
  have Hs := hid_ hsz
  clear hown0 hgrow0 hh ht hz hsz hz0 hi0 hz1 hz2 hg hc hm
  go_wp2_with fail
  go_ret2
  have hb : Blk (w0.alloc (.cells #[.slice (some ⟨w.heap.size, 0, none⟩) m m, .int .i64 0] 107)) w.heap.size 111 (madeCells rzero.toArray (m * 3)) := Blk.alloc (w := w0) Hh.out _
  have hpg : ∀ (i : Nat) (p : Pg), (Pl.new (m : Int)).pages[i]? = some p → i < m ∧ p = Pg.zero := by
    intro i p hp
    change (List.replicate (m : Int).toNat Pg.zero)[i]? = some p at hp
    rw [Int.toNat_natCast, List.getElem?_replicate] at hp
    split at hp
    · injection hp with hp
      exact ⟨by assumption, hp.symm⟩
    · cases hp
  refine ⟨w0.heap.size, w.heap.size, fun _ => 0, rfl, ⟨?_, ⟨_, hb⟩, fun i p hp => ?_, fun i j p q hp hq ho => ?_, fun p hp => ?_⟩, ?_, fun k hk => ?_⟩
  · have := Blk.new w0 107 #[.slice (some ⟨w.heap.size, 0, none⟩) m m, .int .i64 0]
    show Blk _ _ _ #[.slice _ (List.replicate (m : Int).toNat Pg.zero).length (List.replicate (m : Int).toNat Pg.zero).length, _]
    rw [Int.toNat_natCast, List.length_replicate]
    exact this
  · obtain ⟨hi, rfl⟩ := hpg i p hp
    refine ⟨.slice none 0 0, fun j v hv => ?_, fun h => absurd rfl h⟩
    have hj : j < 3 := (List.getElem?_eq_some_iff.1 hv).1
    rw [hb.cell, rmade_zero m i j hi hj]
    exact hv
  · obtain ⟨_, rfl⟩ := hpg i p hp
    exact absurd rfl ho
  · rw [(List.mem_replicate.1 hp).2]; rfl
  · exact ((Below.refl _ _).grown Hg.out (Nat.le_refl _) (fun _ h => by cases h)).alloc (Nat.le_of_lt Hs.out) _
  · rcases hk with rfl | rfl | ⟨i, p, hp, ho, _⟩
    · exact Nat.le_of_lt Hs.out
    · exact Nat.le_refl _
    · obtain ⟨_, rfl⟩ := hpg i p hp
      exact absurd rfl ho

set_option maxHeartbeats 400000 in
theorem rnew_no (n : Int) (w : World) (hn : Pl.newE n ≠ 0) :
    Calls Try.prog 28 #[.int .i64 n] w fun e w' => e = .returned (.tuple #[.pointer none, .int .i64 20]) ∧ w = w' := by
  have hb : n < 1 ∨ 256 < n := by
    unfold Pl.newE at hn
    by_cases h1 : n < 1 ∨ 256 < n
    · exact h1
    · rw [if_neg h1] at hn; exact absurd rfl hn
  clear hn
  rcases hb with hb | hb
  all_goals
    go_enter Try.func28, Try.ntmps28
    go_wp2_with fail
    go_ret2
    exact ⟨rfl, rfl⟩
end
end Go.Proofs.Ytelmolblcnolnaa
