/- The example of layer 11's statements, walked: it is as the chapter says. No condition. -/
import Derived.Test.YtelmolblcnolnaaPoolWalkF
import Derived.Test.YtelmolblcnolnaaSame
import Derived.Test.YtelmolblcnolnaaLawRow
namespace Go.Proofs.Ytelmolblcnolnaa
open Go.RowKit

/-- A literal of whole numbers, just made. -/
theorem rdi_lit (W : World) (k : IntKind) (t : TypeId) (xs : List Int) (n : Nat) (cs : Array Value) (hn : n = xs.length) (hc : cs = (xs.map (Value.int k)).toArray) (hm : xs.length ≤ maxLen) : RdI (W.alloc (.cells cs t)) (W.heap.size + 1) k (.slice (some ⟨W.heap.size, 0, none⟩) n n) xs := by
  subst hn hc
  refine ⟨some ⟨W.heap.size, 0, none⟩, xs.length, by rw [List.length_map], by rw [List.length_map]; exact Nat.le_refl _, by rw [List.length_map]; exact hm, fun _ => ⟨W.heap.size, 0, rfl, by omega, by simp, fun j u hj => ?_⟩⟩
  rw [Nat.zero_add, (Blk.new W t _).cell]
  simpa using hj
theorem same_true {w : World} {v u : Value} {xs ys : List Int} {B B' : Nat} (hx : RdI w B .i64 v xs) (hy : RdI w B' .i64 u ys) (e : xs = ys) :
    Calls Try.prog 41 #[v, u] w fun e w' => e = .returned (.bool true) ∧ Upd (fun _ => False) w w' := by
  refine (same07_any hx hy).mono ?_
  rintro e w' ⟨rfl, n, rfl⟩
  exact ⟨by rw [decide_eq_true e], (Upd.refl _ _).drewN n⟩
theorem upd_drewN {w w' : World} (h : ∃ n, w' = w.drewN n) : Upd (fun _ => False) w w' := by
  obtain ⟨n, rfl⟩ := h
  exact (Upd.refl _ _).drewN n
/-- A row against a literal of the same numbers, just made. -/
theorem same_lit {w : World} {base : Nat} {v : Value} {xs : List Int} {cs : Array Value} {n : Nat} (ho : w.ownsRow base 3 1 v xs.length (xs.map (Value.int .i64))) (hn : n = xs.length) (hc : cs = (xs.map (Value.int .i64)).toArray) (hm : xs.length ≤ maxLen) :
    Calls Try.prog 41 #[v, .slice (some ⟨w.heap.size, 0, none⟩) n n] (w.alloc (.cells cs 3)) fun e w' => e = .returned (.bool true) ∧ Upd (fun _ => False) w w' := by
  refine (same_true (Rd.of_own (own_upd ho ((Upd.refl (fun _ => False) _).alloc _) (fun _ h => h.elim))) (rdi_lit w .i64 3 xs n cs hn hc hm) rfl).mono ?_
  rintro e w' ⟨rfl, hu⟩
  exact ⟨rfl, ((Upd.refl _ _).alloc _).trans hu⟩

def st0 : Pl := Pl.new 4
def tA : ByteArray := ⟨#[97]⟩
def tB : ByteArray := ⟨#[98]⟩
def tC : ByteArray := ⟨#[99]⟩
def st1 : Pl := st0.takeS tA 2
def st2 : Pl := st1.dropS 0
def st3 : Pl := st2.takeS tB 2
def st4 : Pl := st3.resS 1
def st5 : Pl := st4.takeS tC 1
def st6 : Pl := st5.drawS tC 1
theorem st_facts : st0.takeE tA 2 = 0 ∧ st0.takeL tA 2 = [0, 1] ∧ st1.noneE 0 = 0 ∧ st2.takeE tB 2 = 0 ∧ st2.takeL tB 2 = [0, 2] ∧ st3.resE 1 = 0 ∧ st4.takeE tC 1 = 6 ∧ st5.drawE tC 1 = 0 ∧ st5.drawL tC 1 = [3] ∧
    (st6.pages.length : Int) = 4 ∧ st6.free = 0 ∧ st6.aside = 0 ∧ st6.count tB = 2 ∧ st6.tagOf 1 = tA ∧ st6.owners 3 = 1 := by decide +kernel
theorem st_ok0 : st0.Ok 1 := Pl.ok_new (by decide) (by decide)
theorem st_ok1 : st1.Ok 1 := st_ok0.take (by decide) _ _
theorem st_ok2 : st2.Ok 1 := st_ok1.drop _ (by decide)
theorem st_ok3 : st3.Ok 1 := st_ok2.take (by decide) _ _
theorem st_ok4 : st4.Ok 1 := st_ok3.res _
theorem st_ok5 : st5.Ok 1 := st_ok4.take (by decide) _ _
theorem st_ok6 : st6.Ok 1 := st_ok5.draw (by decide) _ _

theorem OwnI.keep {w w' : World} {base b bq : Nat} {v : Value} {xs : List Int} (h : OwnI w base v xs) (hu : Upd (pS b bq) w w') (hb : b < base) (hq : bq < base) : OwnI w' base v xs :=
  own_upd h hu (fun k hk hbk _ => by rcases hk with rfl | rfl <;> omega)
theorem OwnI.keep0 {w w' : World} {base : Nat} {v : Value} {xs : List Int} (h : OwnI w base v xs) (hu : Upd (fun _ => False) w w') : OwnI w' base v xs := own_upd h hu (fun _ h => h.elim)
theorem OwnI.rd {w : World} {base : Nat} {v : Value} {xs : List Int} (h : OwnI w base v xs) : RdI w w.heap.size .i64 v xs := Rd.of_own h
theorem OwnI.base {w : World} {base base' : Nat} {v : Value} {xs : List Int} (h : OwnI w base v xs) (hb : base' ≤ base) : OwnI w base' v xs := own_base h hb


set_option maxHeartbeats 1600000 in
set_option maxRecDepth 100000 in
theorem works11 (w : World) : Calls Try.prog 14 #[] w (TruePost w) := by
  obtain ⟨f1, f2, f3, f4, f5, f6, f7, f8, f9, f10, f11, f12, f13, f14, f15⟩ := st_facts
  go_enter Try.func14, Try.ntmps14
  go_wp2_with fail
  refine (new_any 4 _ (by decide)).mono ?_
  rintro e w1 ⟨b, bq, rfl, hp, hB, hb, hq⟩
  have hp : PoolAt w1 b bq st0 := hp
  have hb1 : b < w1.heap.size := hp.hb.lt
  have hq1 : bq < w1.heap.size := Blk.ex_lt hp.tq
  have HB := hid_ hB
  clear hB
  have H1 := hid_ (take_any hp st_ok0 tA 2)
  rw [f1, f2] at H1
  clear hp f1 f2
  go_wp2_with fail
  refine H1.out.mono ?_
  clear H1
  rintro e w2 ⟨v1, rfl, ho1, hp, hu⟩
  have hp : PoolAt w2 b bq st1 := hp
  have Ho1 := hid_ ho1
  have Hu2 := hid_ hu
  have H1 := hid_ (drop_any hp st_ok1 (by decide) 0)
  rw [f3] at H1
  clear hp f3 ho1 hu
  go_wp2_with fail
  refine H1.out.mono ?_
  clear H1
  rintro e w3 ⟨rfl, hp, hu⟩
  have hp : PoolAt w3 b bq st2 := hp
  have Hu3 := hid_ hu
  have H1 := hid_ (take_any hp st_ok2 tB 2)
  rw [f4, f5] at H1
  clear hp f4 f5 hu
  go_wp2_with fail
  refine H1.out.mono ?_
  clear H1
  rintro e w4 ⟨v2, rfl, ho2, hp, hu⟩
  have hp : PoolAt w4 b bq st3 := hp
  have Ho2 := hid_ ho2
  have Hu4 := hid_ hu
  have H1 := hid_ (reserve_any hp st_ok3 1)
  rw [f6] at H1
  clear hp f6 ho2 hu
  go_wp2_with fail
  refine H1.out.mono ?_
  clear H1
  rintro e w5 ⟨rfl, hp, hu⟩
  have hp : PoolAt w5 b bq st4 := hp
  have Hu5 := hid_ hu
  have H1 := hid_ (take_any hp st_ok4 tC 1)
  rw [f7] at H1
  clear hp f7 hu
  go_wp2_with fail
  refine H1.out.mono ?_
  clear H1
  rintro e w6 ⟨v3, rfl, ho3, hp, hu⟩
  have hp : PoolAt w6 b bq st5 := hp
  have Hu6 := hid_ hu
  have H1 := hid_ (draw_any hp st_ok5 tC 1)
  rw [f8, f9] at H1
  clear hp f8 f9 hu ho3
  go_wp2_with fail
  refine H1.out.mono ?_
  clear H1
  rintro e w7 ⟨v4, rfl, ho4, hp, hu⟩
  have hp : PoolAt w7 b bq st6 := hp
  have Ho4 := hid_ ho4
  have Hu7 := hid_ hu
  have Hp := hid_ hp
  have H1 := hid_ (sizes_any hp)
  rw [f10, f11, f12] at H1
  clear hp f10 f11 f12 hu ho4
  go_wp2_with fail
  refine H1.out.mono ?_
  clear H1
  rintro e w8 ⟨rfl, hd⟩
  have z2 := Hu2.out.size
  have z3 := Hu3.out.size
  have z4 := Hu4.out.size
  have z5 := Hu5.out.size
  have z6 := Hu6.out.size
  have z7 := Hu7.out.size
  have Hu8 := hid_ (upd_drewN hd)
  clear hd
  have Ho1 := hid_ (OwnI.keep0 (((((((Ho1.out.keep Hu3.out hb1 hq1).keep Hu4.out hb1 hq1).keep Hu5.out hb1 hq1).keep Hu6.out hb1 hq1).keep Hu7.out hb1 hq1))) Hu8.out)
  have Ho2 := hid_ (OwnI.keep0 (((Ho2.out.keep Hu5.out (by omega) (by omega)).keep Hu6.out (by omega) (by omega)).keep Hu7.out (by omega) (by omega)) Hu8.out)
  have Ho4 := hid_ (OwnI.keep0 Ho4.out Hu8.out)
  have Hp := hid_ (Hp.out.upd Hu8.out (fun h => h) (fun h => h))
  have HB := hid_ ((HB.out.trans ((((((Hu2.out.trans Hu3.out).trans Hu4.out).trans Hu5.out).trans Hu6.out).trans Hu7.out).toBelow HB.out.size (fun k hk => by rcases hk with rfl | rfl <;> omega))).trans (Hu8.out.toBelow (by have := HB.out.size; omega) (fun _ h => h.elim)))
  clear Hu2 Hu3 Hu4 Hu5 Hu6 Hu7 Hu8
  go_wp2_with fail
  refine (same_lit Ho1.out rfl rfl (by decide)).mono ?_
  rintro e w9 ⟨rfl, hu⟩
  have Hu9 := hid_ hu
  have Ho2 := hid_ (OwnI.keep0 Ho2.out hu)
  have Ho4 := hid_ (OwnI.keep0 Ho4.out hu)
  clear hu
  go_wp2_with fail
  refine (same_lit Ho2.out rfl rfl (by decide)).mono ?_
  rintro e w10 ⟨rfl, hu⟩
  have Hu10 := hid_ hu
  have Ho4 := hid_ (OwnI.keep0 Ho4.out hu)
  clear hu
  go_wp2_with fail
  refine (same_lit Ho4.out rfl rfl (by decide)).mono ?_
  rintro e w11 ⟨rfl, hu⟩
  have HU := hid_ ((Hu9.out.trans Hu10.out).trans hu)
  have Hp := hid_ (Hp.out.upd HU.out (fun h => h) (fun h => h))
  clear hu
  have Hc := hid_ (count_any Hp.out (by decide) tB)
  have Ht := hid_ (tag_any Hp.out (by decide) 1)
  have Hw := hid_ (owners_any Hp.out (by decide) 3)
  rw [f13] at Hc
  rw [show st6.tagOf 1 = ⟨#[97]⟩ from f14] at Ht
  rw [f15] at Hw
  clear f13 f14 f15
  go_wp2_with fail
  refine Hc.out.mono ?_
  rintro e w12 ⟨rfl, rfl⟩
  go_wp2_with fail
  refine Ht.out.mono ?_
  rintro e w12 ⟨rfl, rfl⟩
  go_wp2_with fail
  refine Hw.out.mono ?_
  rintro e w12 ⟨rfl, rfl⟩
  go_wp2_with fail
  go_ret
  exact ⟨rfl, HB.out.trans (HU.out.toBelow HB.out.size (fun _ h => h.elim))⟩
end Go.Proofs.Ytelmolblcnolnaa
