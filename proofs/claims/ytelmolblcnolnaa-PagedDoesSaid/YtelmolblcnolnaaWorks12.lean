/- The example of layer 12's statements, walked: it is as the chapter says. No condition. -/
import Derived.Test.YtelmolblcnolnaaFetchWB
import Derived.Test.YtelmolblcnolnaaReleaseW
import Derived.Test.YtelmolblcnolnaaWorks11
namespace Go.Proofs.Ytelmolblcnolnaa
open Go.RowKit

def w40 : List Int := List.replicate 39 0 ++ [-7]
def tM : ByteArray := ⟨#[109]⟩
def sp0 : Pl := Pl.new 3
def sp1 : Pl := sp0.takeS tM 2
def sp2 : Pl := putsTo sp1 [0, 1] w40 40
def sp3 : Pl := relS sp2 [0, 1]
theorem sp_facts : sp0.takeE tM (needV 40) = 0 ∧ sp0.takeL tM (needV 40) = [0, 1] ∧ fetchE sp2 [0, 1] 40 = 0 ∧ (List.range 40).map (gotV sp2 [0, 1]) = w40 ∧ relE sp2 [0, 1] = 0 ∧ sp3.count tM = 0 ∧ sp2.pages.length = 3 ∧ sp3.pages.length = 3 := by decide +kernel
theorem ok_putsTo {s : Pl} {c : Int} (h : s.Ok c) (L xs : List Int) : ∀ k, (putsTo s L xs k).Ok c
  | 0 => h
  | k + 1 => (ok_putsTo h L xs k).put _ _ _
theorem ok_dropTo {s : Pl} {c : Int} (h : s.Ok c) (hc : 0 ≤ c) (L : List Int) : ∀ k, (dropTo s L k).Ok c
  | 0 => h
  | k + 1 => (ok_dropTo h hc L k).drop _ hc
theorem ok_relS {s : Pl} {c : Int} (h : s.Ok c) (hc : 0 ≤ c) (L : List Int) : (relS s L).Ok c := by
  unfold relS
  split
  · exact ok_dropTo h hc L _
  · exact h
theorem sp_ok2 : sp2.Ok 1 := ok_putsTo ((Pl.ok_new (by decide) (by decide) : Pl.Ok 1 (Pl.new 3)).take (by decide) _ _) _ _ _
/-- a pool's pages are none of what was made behind it -/
theorem OwnI.notP {w : World} {base b bq : Nat} {v : Value} {xs : List Int} (h : OwnI w base v xs) (hb : b < base) (hq : bq < base) {A : Option Addr} {m c : Nat} (hv : v = .slice A m c) : ∀ b' o, A = some ⟨b', o, none⟩ → 0 < m → ¬ pS b bq b' := by
  intro b' o hA hm hp
  subst hv hA
  rcases h with ⟨_, h⟩
  rcases h with ⟨h1, _⟩ | ⟨g, c9, cs, h1, h2, _⟩
  · cases h1
  · injection h1 with h1 _ _
    injection h1 with h1
    injection h1 with h1 _ _
    rcases hp with rfl | rfl <;> omega
def z40 : List Int := List.replicate 40 0
theorem z40_set : (rowB z40).setIfInBounds 39 (.int .i8 (-7)) = rowB w40 := by
  apply Array.ext'
  simp [rowB, z40, w40]
set_option maxHeartbeats 1600000 in
set_option maxRecDepth 100000 in
theorem works12 (w : World) : Calls Try.prog 33 #[] w (TruePost w) := by
  obtain ⟨f1, f2, f3, f4, f5, f6, f7, f8⟩ := sp_facts
  have hmk : ∀ W, (Instr.makeSlice 54 (.int .i64 40) (.int .i64 40)).run Try.prog W = .ok (.slice (some ⟨W.heap.size, 0, none⟩) 40 40) (W.alloc (.cells (rowB z40) 73)) := fun W => make_i8s W 40 (by omega)
  go_enter Try.func33, Try.ntmps33
  go_wp2_with fail
  refine (new_any 3 _ (by decide)).mono ?_
  rintro e w1 ⟨b, bq, rfl, hp, hB, hb, hq⟩
  have hp : PoolAt w1 b bq sp0 := hp
  have hb1 : b < w1.heap.size := hp.hb.lt
  have hq1 : bq < w1.heap.size := Blk.ex_lt hp.tq
  have HB := hid_ hB
  have HP := hid_ hp
  clear hB hp
  have hbk := Blk.new w1 73 (rowB z40)
  have rc : (w1.alloc (.cells (rowB z40) 73)).cell? ⟨w1.heap.size, 39, none⟩ = some (.int .i8 0) := (hbk.cell 39).trans rfl
  have fr := hbk.frozen 39
  clear hbk
  go_wp2_with fail
  rw [z40_set]
  clear rc fr hmk
  have hbk := Blk.new w1 73 (rowB w40)
  have hu2 := (Upd.refl (fun _ => False) w1).alloc (.cells (rowB w40) 73)
  generalize w1.alloc (.cells (rowB w40) 73) = w2 at *
  have ho2 : w2.ownsRow w1.heap.size 73 1 (.slice (some ⟨w1.heap.size, 0, none⟩) 40 40) 40 (w40.map (Value.int .i8)) := own_rowB hbk (Nat.le_refl _) rfl (by decide)
  have hr2 : RdI w2 w2.heap.size .i8 (.slice (some ⟨w1.heap.size, 0, none⟩) 40 40) w40 := Rd.of_own ho2
  have hp2 := PoolMem.upd HP.out hu2 (fun h => h) (fun h => h)
  have hs2 := hu2.size
  have H1 := hid_ (place_any hp2 (Pl.ok_new (by decide) (by decide) : Pl.Ok 1 (Pl.new 3)) tM hr2 (by decide) (fun b' o hA _ => by injection hA with hA; injection hA with hA; intro h9; rcases h9 with rfl | rfl <;> omega))
  have HU2 := hid_ hu2
  have HO2 := hid_ ho2
  clear hp2 hu2 hbk ho2 hr2 HP
  refine H1.out.mono ?_
  clear H1
  rintro e w3 ⟨v, rfl, ho, hp, hu⟩
  have q1 : (w40.length : Int) = 40 := rfl
  rw [q1] at ho hp ⊢
  rw [f2] at ho hp
  rw [f1] at hp ⊢
  rw [if_pos rfl] at hp
  have hp : PoolAt w3 b bq sp2 := hp
  obtain ⟨A, c, rfl⟩ := own_slice_ ho
  have hnp := ho.notP (b := b) (bq := bq) (by omega) (by omega) rfl
  have HO := hid_ ho
  have HO3 := hid_ (own_upd HO2.out hu (fun k hk hbk _ => by rcases hk with rfl | rfl <;> omega))
  have HU3 := hid_ ((HU2.out.mono (fun _ _ h => h.elim)).trans hu)
  have HP := hid_ hp
  clear ho hp hu HU2 HO2
  have H1 := hid_ (fetch_run HP.out (by decide) HO.out.rd (m := 2) (by decide) (n := 40) (by decide))
  rw [f3, f4] at H1
  clear f1 f2 f3 f4
  go_wp2_with fail
  refine H1.out.mono ?_
  clear H1
  rintro e w4 ⟨x, rfl, hB, hx, _⟩
  have hx := hx rfl
  have hu4 := Upd.of_below (S := fun _ => False) hB
  have HX := hid_ hx
  have HP4 := hid_ (PoolMem.upd HP.out hu4 (fun h => h) (fun h => h))
  have HO4 := hid_ (HO.out.keep0 hu4)
  have HO5 := hid_ (own_upd HO3.out hu4 (fun _ h => h.elim))
  have HU4 := hid_ (HU3.out.trans (hu4.mono (fun _ _ h => h.elim)))
  have H1 := fun W => hid_ (fetch_no (w := W) (b := b) (A := A) (m := 2) (c := c) (n := 65) (by unfold InI; omega) (.inr (by decide)))
  clear HU3 HO HO3 HP hx hB hu4
  go_wp2_with fail
  refine (H1 _).out.mono ?_
  clear H1
  rintro e w5 ⟨rfl, hB⟩
  have hu4 := Upd.of_below (S := fun _ => False) hB
  have HX5 := hid_ (own_upd HX.out hu4 (fun _ h => h.elim))
  have HP5 := hid_ (PoolMem.upd HP4.out hu4 (fun h => h) (fun h => h))
  have HO6 := hid_ (HO4.out.keep0 hu4)
  have HO7 := hid_ (own_upd HO5.out hu4 (fun _ h => h.elim))
  have HU5 := hid_ (HU4.out.trans (hu4.mono (fun _ _ h => h.elim)))
  clear HU4 HX HP4 HO4 HO5 hu4 hB
  have H2 := fun W => hid_ (need_any 33 W (by unfold InI; omega))
  rw [show needV 33 = 2 from by decide] at H2
  go_wp2_with fail
  refine (H2 _).out.mono ?_
  clear H2
  rintro e w6 ⟨rfl, rfl⟩
  go_wp2_with fail
  refine (same08_any (Rd.of_own HX5.out) (Rd.of_own HO7.out)).mono ?_
  rintro e w6 ⟨rfl, n6, rfl⟩
  have hu6 := (Upd.refl (fun _ => False) w5).drewN n6
  have HP6 := hid_ (PoolMem.upd HP5.out hu6 (fun h => h) (fun h => h))
  have HO8 := hid_ (HO6.out.keep0 hu6)
  have HU6 := hid_ (HU5.out.trans (hu6.mono (fun _ _ h => h.elim)))
  have H1 := hid_ (release_any HP6.out sp_ok2 (by decide) (by decide) HO8.out.rd (by decide) (fun x hx => by simp at hx; unfold InI; omega) hnp)
  rw [f5] at H1
  go_wp2_with fail
  refine H1.out.mono ?_
  clear H1
  rintro e w7 ⟨rfl, hp, hu⟩
  have hp : PoolAt w7 b bq sp3 := hp
  have H1 := hid_ (count_any hp (by decide) tM)
  rw [f6] at H1
  have HU7 := hid_ (HU6.out.trans hu)
  clear hp hu
  go_wp2_with fail
  refine H1.out.mono ?_
  rintro e w8 ⟨rfl, rfl⟩
  go_wp2_with fail
  go_ret
  exact ⟨rfl, HB.out.trans (HU7.out.toBelow HB.out.size (fun k hk => by rcases hk with rfl | rfl <;> omega))⟩
end Go.Proofs.Ytelmolblcnolnaa
