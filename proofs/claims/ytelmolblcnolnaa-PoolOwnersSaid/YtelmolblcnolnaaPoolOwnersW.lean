/- 'PoolOwners', walked: it returns true. No condition. -/
import Derived.Test.YtelmolblcnolnaaWorks11
namespace Go.Proofs.Ytelmolblcnolnaa
open Go.RowKit

/-- One page, with so many owners, and v in one cell. -/
def own1 (c v o : Int) : Pl := { pages := [{ tag := tA, own := o, cells := zeros32.set c.toNat v }], aside := 0 }
theorem own1_page (c v o : Int) : (own1 c v o).page 0 = { tag := tA, own := o, cells := zeros32.set c.toNat v } := rfl
theorem own1_free (c v o : Int) (h : o ≠ 0) : (own1 c v o).free = 0 := by
  show (((freeIx (own1 c v o).pages 1).length : Nat) : Int) = 0
  rw [freeIx_succ]
  show (((freeIx (own1 c v o).pages 0 ++ (if o = 0 then [0] else [])).length : Nat) : Int) = 0
  rw [if_neg h]
  rfl
theorem own1_ok (c v o : Int) (h : 1 ≤ o) : (own1 c v o).Ok o := by
  refine ⟨by show 1 ≤ 256; decide, Int.le_refl _, by rw [own1_free c v o (by omega)]; exact Int.le_refl _, fun p hp => ?_, fun p hp => ?_, fun p hp => ?_⟩
  · obtain rfl := List.mem_singleton.1 hp
    show 0 ≤ o ∧ o ≤ o
    omega
  · obtain rfl := List.mem_singleton.1 hp
    show (zeros32.set c.toNat v).length = 32
    rw [List.length_set]; rfl
  · obtain rfl := List.mem_singleton.1 hp
    exact ⟨fun e => by change o = 0 at e; omega, fun e => by cases e⟩
theorem own1_share (c v o : Int) (h : 1 ≤ o) : (own1 c v o).shareS 0 = own1 c v (o + 1) ∧ (own1 c v o).noneE 0 = 0 ∧ (own1 c v o).owners 0 = o ∧ (own1 c v o).tagOf 0 = tA := by
  have h0 : ((own1 c v o).page 0).own ≠ 0 := by show o ≠ 0; omega
  refine ⟨by unfold Pl.shareS; rw [if_neg h0]; rfl, by unfold Pl.noneE; rw [if_neg h0], rfl, by unfold Pl.tagOf; rw [if_neg h0]; rfl⟩
theorem own1_get (c v o : Int) (h : 1 ≤ o) (h0 : 0 ≤ c) (h1 : c < 32) : (own1 c v o).get 0 c = v ∧ (own1 c v o).cellE 0 c = 0 := by
  have hp : ((own1 c v o).page 0).own ≠ 0 := by show o ≠ 0; omega
  have he : (own1 c v o).cellE 0 c = 0 := by unfold Pl.cellE; rw [if_neg hp, if_neg (by omega)]
  refine ⟨?_, he⟩
  unfold Pl.get
  rw [if_pos he]
  show (zeros32.set c.toNat v).getD c.toNat 0 = v
  rw [List.getD_eq_getElem?_getD, List.getElem?_set_self (by show c.toNat < 32; omega)]
  rfl
theorem own1_drop (c v o : Int) (h : 2 ≤ o) : (own1 c v o).dropS 0 = own1 c v (o - 1) := by
  have h0 : ((own1 c v o).page 0).own ≠ 0 := by show o ≠ 0; omega
  have h1 : ((own1 c v o).page 0).own ≠ 1 := by show o ≠ 1; omega
  unfold Pl.dropS
  rw [if_neg h0, if_neg h1]
  rfl
theorem own1_last (c v : Int) : (own1 c v 1).dropS 0 = Pl.new 1 := rfl
theorem own1_first (c v : Int) (h0 : 0 ≤ c) (h1 : c < 32) : ((Pl.new 1).takeS tA 1).putS 0 c v = own1 c v 1 ∧ ((Pl.new 1).takeS tA 1).cellE 0 c = 0 := by
  have hp : (((Pl.new 1).takeS tA 1).page 0) = Pg.one tA := by rfl
  have he : ((Pl.new 1).takeS tA 1).cellE 0 c = 0 := by
    unfold Pl.cellE
    rw [hp, if_neg (by decide), if_neg (by omega)]
  refine ⟨?_, he⟩
  unfold Pl.putS
  rw [if_pos he]
  rfl
theorem new1_facts (c : Int) : (Pl.new 1).takeE tB 1 = 0 ∧ (Pl.new 1).takeL tB 1 = [0] ∧ (Pl.new 1).cellE 0 c = 25 := by
  refine ⟨by decide +kernel, by decide +kernel, by unfold Pl.cellE; rw [if_pos (by rfl)]⟩
theorem new1_last (c : Int) (h0 : 0 ≤ c) (h1 : c < 32) : ((Pl.new 1).takeS tB 1).get 0 c = 0 ∧ ((Pl.new 1).takeS tB 1).cellE 0 c = 0 ∧ ((Pl.new 1).takeS tB 1).owners 0 = 1 := by
  have hp : (((Pl.new 1).takeS tB 1).page 0) = Pg.one tB := by rfl
  have he : ((Pl.new 1).takeS tB 1).cellE 0 c = 0 := by
    unfold Pl.cellE
    rw [hp, if_neg (by decide), if_neg (by omega)]
  refine ⟨?_, he, by unfold Pl.owners; rw [hp]; rfl⟩
  unfold Pl.get
  rw [if_pos he, hp]
  show zeros32.getD c.toNat 0 = 0
  unfold zeros32
  rw [List.getD_eq_getElem?_getD, List.getElem?_replicate]
  split <;> rfl

/-- Behind j of k + 1 drops. -/
def ownK (c v : Int) (k j : Nat) : Pl := if j ≤ k then own1 c v ((k : Int) + 1 - j) else Pl.new 1
theorem ownK_at (c v : Int) {k j : Nat} (h : j ≤ k) : ownK c v k j = own1 c v ((k : Int) + 1 - j) ∧ (own1 c v ((k : Int) + 1 - j)).dropS 0 = ownK c v k (j + 1) := by
  refine ⟨by unfold ownK; rw [if_pos h], ?_⟩
  unfold ownK
  by_cases h1 : j + 1 ≤ k
  · rw [if_pos h1, own1_drop c v _ (by omega)]
    congr 1
    omega
  · rw [if_neg h1]
    obtain rfl : j = k := by omega
    rw [show (j : Int) + 1 - j = 1 by omega, own1_last]
theorem ownK_end (c v : Int) (k : Nat) : ownK c v k (k + 1) = Pl.new 1 := by unfold ownK; rw [if_neg (by omega)]
theorem u64_nonneg (x : Int) : 0 ≤ IntKind.u64.wrap x := by
  rw [IntKind.wrap_u64]
  omega

set_option maxHeartbeats 1600000 in
set_option maxRecDepth 100000 in
theorem poolOwners_walk (times cell v : Int) (w : World) :
    Calls Try.prog 5 #[.int .i64 times, .int .i64 cell, .int .i64 v] w (TruePost w) := by
  have u1 := u64_nonneg times
  have u2 := u64_nonneg cell
  go_enter Try.func5, Try.ntmps5
  go_wp2_with fail
  refine (works11 _).mono ?_
  rintro e w1 ⟨rfl, hB⟩
  have HB := hid_ hB
  clear hB
  go_wp2_with fail
  refine (new_any 1 _ (by decide)).mono ?_
  rintro e w2 ⟨b, bq, rfl, hp, hB, hb, hq⟩
  have c0 : 0 ≤ IntKind.u64.wrap cell % 32 ∧ IntKind.u64.wrap cell % 32 < 32 := by omega
  have t0 : 0 ≤ IntKind.u64.wrap times % 50 ∧ IntKind.u64.wrap times % 50 < 50 := by omega
  generalize IntKind.u64.wrap cell % 32 = c at *
  generalize IntKind.u64.wrap times % 50 = T at *
  generalize IntKind.u64.wrap cell = uc at *
  generalize IntKind.u64.wrap times = ut at *
  obtain ⟨c0, c1⟩ := c0
  obtain ⟨t0, t1⟩ := t0
  obtain ⟨T, rfl⟩ := Int.eq_ofNat_of_zero_le t0
  clear u1 u2
  have hb1 : b < w2.heap.size := hp.hb.lt
  have hq1 : bq < w2.heap.size := Blk.ex_lt hp.tq
  have hwb : w.heap.size ≤ b := Nat.le_trans HB.out.size hb
  have hwq : w.heap.size ≤ bq := Nat.le_trans HB.out.size hq
  have HB := hid_ (HB.out.trans (hB.mono HB.out.size))
  clear hB hb hq
  have H1 := hid_ (take_any hp (Pl.ok_new (by decide) (by decide) : (Pl.new 1).Ok 1) tA 1)
  have hk1 : ((Pl.new 1).takeS tA 1).Ok 1 := Pl.Ok.take (Pl.ok_new (by decide) (by decide)) (by decide) _ _
  rw [show (Pl.new 1).takeE tA 1 = 0 by decide +kernel] at H1
  clear hp
  go_wp2_with fail
  refine H1.out.mono ?_
  clear H1
  rintro e w3 ⟨v1, rfl, ho1, hp, hu⟩
  have Hu3 := hid_ hu
  have H1 := hid_ (put_any hp hk1.len 0 c v)
  obtain ⟨e1, e2⟩ := own1_first c v c0 c1
  rw [e1, e2] at H1
  clear hp hu ho1 e1 e2 hk1
  go_wp2_with fail
  refine H1.out.mono ?_
  clear H1
  rintro e w4 ⟨rfl, hp, hu⟩
  have Hu4 := hid_ (Hu3.out.trans hu)
  have Hp := hid_ hp
  clear hp hu Hu3
  go_wp2_with fail
  go_loopw [9] (fun i wr => ∃ k : Nat, k ≤ T ∧ i = .int .i64 k ∧ PoolAt wr b bq (own1 c v (k + 1)) ∧ Upd (pS b bq) w2 wr) (fun i _ => T - (intOf i).toNat)
  case atStart => exact ⟨0, Nat.zero_le _, rfl, Hp.out, Hu4.out⟩
  case round =>
    obtain ⟨k, hk, rfl, hp, hu⟩ := hrel
    have Hp := hid_ hp
    have Hu := hid_ hu
    clear Hu4
    by_cases hlt : k < T
    · obtain ⟨e1, e2, _, _⟩ := own1_share c v (k + 1) (by omega)
      have H1 := hid_ (share_any hp (own1_ok c v (k + 1) (by omega)) (by omega) 0)
      rw [e1, e2] at H1
      clear hp hu e1 e2
      go_wp2_with fail
      refine H1.out.mono ?_
      clear H1
      rintro e w5 ⟨rfl, hp, hu⟩
      have Hp := hid_ hp
      have H1 := hid_ (owners_any hp (by show 1 ≤ 256; decide) 0)
      obtain ⟨_, _, e3, _⟩ := own1_share c v (k + 1 + 1) (by omega)
      rw [e3] at H1
      have Hu5 := hid_ (Hu.out.trans hu)
      clear hp hu e3
      go_wp2_with fail
      refine H1.out.mono ?_
      rintro e w6 ⟨rfl, rfl⟩
      have hne : ((k : Int) + 1 + 1 != (k : Int) + 2) = false := by simp; omega
      go_wp2_with fail
      go_roundw
      case rel => exact ⟨k + 1, by omega, by go_num, by have := Hp.out; exact_mod_cast this, Hu5.out⟩
      case measure => simp [intOf]; omega
    · have hkT : k = T := by omega
      subst hkT
      have Hp : Hid (PoolAt wr b bq (ownK c v k 0)) := by
        have e : ownK c v k 0 = own1 c v ((k : Int) + 1) := by
          unfold ownK
          rw [if_pos (Nat.zero_le _)]
          congr 1
        rw [e]
        exact hp
      clear hp hu
      obtain ⟨wq, rfl⟩ : ∃ wq : World, wq = wr := ⟨_, rfl⟩
      go_wp2_with fail
      go_loopw [10] (fun i wr => ∃ j : Nat, j ≤ k + 1 ∧ i = .int .i64 j ∧ PoolAt wr b bq (ownK c v k j) ∧ Upd (pS b bq) w2 wr) (fun i _ => k + 1 - (intOf i).toNat)
      case atStart => exact ⟨0, Nat.zero_le _, rfl, Hp.out, Hu.out⟩
      case round =>
        obtain ⟨j, hj, rfl, hp, hu⟩ := hrel
        have Hu := hid_ hu
        clear Hp hu
        by_cases hlt : j ≤ k
        · obtain ⟨e0, e1⟩ := ownK_at c v hlt
          have Hst := hid_ e1
          rw [e0] at hp
          obtain ⟨o, ho1, ho2⟩ : ∃ o : Int, 1 ≤ o ∧ o = (k : Int) + 1 - j := ⟨_, by omega, rfl⟩
          rw [← ho2] at hp Hst
          have hob : o < 9223372036854775807 := by omega
          have Ho2 := hid_ ho2
          clear e0 e1 ho2
          obtain ⟨g1, g2⟩ := own1_get c v o ho1 c0 c1
          obtain ⟨_, s2, _, s4⟩ := own1_share c v o ho1
          have HG := hid_ (get_any hp (by show 1 ≤ 256; decide) 0 c)
          rw [g1, g2] at HG
          have HT := hid_ (tag_any hp (by show 1 ≤ 256; decide) 0)
          rw [s4] at HT
          unfold tA at HT
          have HD := hid_ (drop_any hp (own1_ok c v o ho1) hob 0)
          rw [s2, Hst.out] at HD
          clear hp g1 g2 s2 s4 Hst
          go_wp2_with fail
          refine HG.out.mono ?_
          rintro e w6 ⟨rfl, rfl⟩
          go_wp2_with fail
          refine HT.out.mono ?_
          rintro e w6 ⟨rfl, rfl⟩
          go_wp2_with fail
          refine HD.out.mono ?_
          rintro e w7 ⟨rfl, hp, hu⟩
          have Hp := hid_ hp
          have Hu := hid_ (Hu.out.trans hu)
          clear hp hu HG HT HD
          go_wp2_with fail
          go_roundw
          case rel => exact ⟨j + 1, by omega, by go_num, Hp.out, Hu.out⟩
          case measure => simp [intOf]; omega
        · have hj' : j = k + 1 := by omega
          subst hj'
          rw [ownK_end] at hp
          obtain ⟨n1, n2, n3⟩ := new1_facts c
          have HG := hid_ (get_any hp (by show 1 ≤ 256; decide) 0 c)
          rw [n3, show (Pl.new 1).get 0 c = 0 by unfold Pl.get; rw [if_neg (by rw [n3]; decide)]] at HG
          have H1 := hid_ (take_any hp (Pl.ok_new (by decide) (by decide) : (Pl.new 1).Ok 1) tB 1)
          rw [n1, n2] at H1
          clear hp n1 n2 n3
          go_wp2_with fail
          refine HG.out.mono ?_
          rintro e w6 ⟨rfl, rfl⟩
          go_wp2_with fail
          refine H1.out.mono ?_
          rintro e w7 ⟨v7, rfl, ho, hp, hu⟩
          obtain ⟨A7, c7, rfl, _⟩ := ho.rd.form
          obtain ⟨n1, n2, n3⟩ := new1_last c c0 c1
          have HG2 := hid_ (get_any hp (by decide) 0 c)
          have HW := hid_ (owners_any hp (by decide) 0)
          rw [n1, n2] at HG2
          rw [n3] at HW
          have Hu := hid_ (Hu.out.trans hu)
          clear hp hu HG H1 n1 n2 n3 ho
          go_wp2_with fail
          refine HG2.out.mono ?_
          rintro e w8 ⟨rfl, rfl⟩
          go_wp2_with fail
          refine HW.out.mono ?_
          rintro e w8 ⟨rfl, rfl⟩
          go_wp2_with fail
          go_ret
          exact ⟨rfl, HB.out.trans (Hu.out.toBelow HB.out.size (fun k hk => by rcases hk with rfl | rfl <;> omega))⟩

set_option maxRecDepth 100000 in
open Go.ChangeShapes Go.WideShapes Go.ChangeAt in
theorem poolOwners_args {H : Type} {enc : TypeId × Value → H} {W : World} {base : Nat} {v0 v1 v2 : Value} {d0 d1 d2 : DataW H} {p0 p1 p2 : List MemPlace} {tv : List TypeId} {gs : List (DataW H)}
    (h0 : DataW.Trod enc Try.prog W 0 (fun _ => true) true 3 v0 d0 p0) (k0 : Value.okWide Try.prog W .any base 3 v0) (h1 : DataW.Trod enc Try.prog W 0 (fun _ => true) true 3 v1 d1 p1) (k1 : Value.okWide Try.prog W .any base 3 v1)
    (h2 : DataW.Trod enc Try.prog W 0 (fun _ => true) true 2 v2 d2 p2) (k2 : Value.okWide Try.prog W .any base 2 v2)
    (_hsz : (DataW.weightsEach Try.prog ([3, 3, 2] ++ tv) ([d0, d1, d2] ++ gs)).all (· ≤ reachBytes) = true) :
    Calls Try.prog 5 #[v0, v1, v2] W (TruePost W) := by
  obtain ⟨a0, rfl, rfl, rfl, _⟩ := open_int Try.underlying3 k0 h0
  obtain ⟨a1, rfl, rfl, rfl, _⟩ := open_int Try.underlying3 k1 h1
  obtain ⟨a2, rfl, rfl, rfl, _⟩ := open_int Try.underlying2 k2 h2
  exact poolOwners_walk a0 a1 a2 W
end Go.Proofs.Ytelmolblcnolnaa
