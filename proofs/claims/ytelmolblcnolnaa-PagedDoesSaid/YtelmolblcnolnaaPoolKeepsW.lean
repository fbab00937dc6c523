/- 'PoolKeeps', walked: it returns true. No condition. -/
import Derived.Test.YtelmolblcnolnaaWorks11
import Derived.Test.YtelmolblcnolnaaPoolActs
import Derived.Deep.DeepCutAuto
import Derived.Deep.LoopGhost
import Derived.Deep.CutBlock
namespace Go.Proofs.Ytelmolblcnolnaa
open Go.RowKit

theorem u64_nonneg' (x : Int) : 0 ≤ IntKind.u64.wrap x := by
  rw [IntKind.wrap_u64]
  omega
/-- What a round of the loop hands on. -/
structure KeepsR (b bq : Nat) (w2 : World) (m c : Nat) (wr : World) : Prop where
  mk_ ::
  ex : ∃ s : Pl, PoolAt wr b bq s ∧ s.Ok c ∧ s.pages.length = m
  upd : Upd (pS b bq) w2 wr
theorem OpsRd.upd {S : Nat → Prop} {w w' : World} {v : Value} {ops : List Opd} (h : OpsRd w v ops) (hu : Upd S w w') (hn : ∀ k, S k → w.heap.size ≤ k) : OpsRd w' v ops := by
  obtain ⟨A, c, hv, hc, hm, hi⟩ := h
  refine ⟨A, c, hv, hc, hm, fun i o ho => ?_⟩
  obtain ⟨b, f, ha, hb, hr⟩ := hi i o ho
  have hs := hu.size
  exact ⟨b, f, ha, by omega, fun j u hj => (World.cell?_of_block (w := w) (a := ⟨b, f + i * 5 + j, none⟩) (hu.block b hb (fun hk => by have := hn b hk; omega))).trans (hr j u hj)⟩

set_option maxHeartbeats 4000000 in
set_option maxRecDepth 100000 in
theorem poolKeeps_walk (n : Int) (v : Value) (ops : List Opd) (w : World) (ho : OpsRd w v ops) :
    Calls Try.prog 4 #[.int .i64 n, v] w (TruePost w) := by
  have u1 := u64_nonneg' n
  obtain ⟨A, cp, rfl, hlc, hlm, hcell⟩ := ho
  have Hcell := hid_ hcell
  unfold maxLen at hlm
  clear hcell
  go_enter Try.func4, Try.ntmps4
  go_wp2_with fail
  refine (works11 _).mono ?_
  rintro e w1 ⟨rfl, hB⟩
  have HB := hid_ hB
  clear hB
  have n0 : 0 ≤ IntKind.u64.wrap n % 64 ∧ IntKind.u64.wrap n % 64 < 64 := by omega
  obtain ⟨n0, n1⟩ := n0
  go_wp2_with fail
  obtain ⟨m, hm⟩ := Int.eq_ofNat_of_zero_le (show 0 ≤ 1 + IntKind.u64.wrap n % 64 by omega)
  have hm1 : 1 ≤ m := by omega
  have hm2 : m ≤ 64 := by omega
  rw [hm]
  generalize IntKind.u64.wrap n = un at *
  clear hm n0 n1 u1
  refine (new_any m _ (by unfold Pl.newE; rw [if_neg (by omega)])).mono ?_
  rintro e w2 ⟨b, bq, rfl, hp, hB, hb, hq⟩
  have hb1 : b < w2.heap.size := hp.hb.lt
  have hq1 : bq < w2.heap.size := Blk.ex_lt hp.tq
  have hwb : w.heap.size ≤ b := Nat.le_trans HB.out.size hb
  have hwq : w.heap.size ≤ bq := Nat.le_trans HB.out.size hq
  have HB := hid_ (HB.out.trans (hB.mono HB.out.size))
  have HR : Hid (KeepsR b bq w2 m 1 w2) := ⟨⟨_, hp, Pl.ok_new (by unfold Pl.newE; rw [if_neg (by omega)]) (by omega), by rw [Pl.len_new]; exact Int.toNat_natCast m⟩, Upd.refl _ _⟩
  clear hB hb hq hp
  go_wp2_with fail
  go_loopg [7] (ops.length + 1) (fun g i wr => ∃ k : Nat, g = ops.length + 1 - k ∧ k ≤ ops.length ∧ k ≤ 100 ∧ i = .int .i64 k ∧ KeepsR b bq w2 m (1 + k) wr)
  case atStart => exact ⟨0, rfl, Nat.zero_le _, Nat.zero_le _, rfl, HR.out⟩
  case round =>
    obtain ⟨k, hg, hk, hk2, rfl, hr⟩ := hrel
    have Hg := hid_ hg
    obtain ⟨⟨s, hp, hok, hlen⟩, hu⟩ := hr
    have Hlen := hid_ hlen
    have Hu := hid_ hu
    clear HR hg hu hlen
    by_cases hlt : k < ops.length ∧ k < 100
    · obtain ⟨hlt, hlt2⟩ := hlt
      obtain ⟨b0, f0, rfl, hb0, hrng⟩ := Hcell.out k _ (List.getElem?_eq_getElem hlt)
      generalize hop : ops[k] = o at *
      clear hop
      have hst : ∀ j, wr.cell? ⟨b0, j, none⟩ = w.cell? ⟨b0, j, none⟩ := fun j => by
        have h1 := Hu.out.cell (p := ⟨b0, j, none⟩) (by show b0 < _; have := HB.out.size; omega) (by rintro (h | h) <;> (simp only at h; omega))
        exact h1.trans (HB.out.cell (p := ⟨b0, j, none⟩) hb0)
      have c0 := (hst _).trans (hrng 0 _ rfl)
      have c1 := (hst _).trans (hrng 1 _ rfl)
      have c2 := (hst _).trans (hrng 2 _ rfl)
      have c3 := (hst _).trans (hrng 3 _ rfl)
      have c4 := (hst _).trans (hrng 4 _ rfl)
      rw [Nat.add_zero] at c0
      clear hst hrng
      obtain ⟨okind, otag, on, ocell, ov⟩ := o
      simp only at c0 c1 c2 c3 c4
      have Hp := hid_ hp
      have Hok := hid_ hok
      clear hp hok
      go_upto_block 2 with fail
      go_cut [] (fun wx => KeepsR b bq w2 m (1 + (k + 1)) wx)
      case first =>
        have hz : wr.heap.size < (wr.alloc (.cells #[.int .i64 okind, .string otag, .int .i64 on, .int .i64 ocell, .int .i64 ov] 31)).heap.size := by simp
        have hu1 : Upd (pS b bq) wr (wr.alloc (.cells #[.int .i64 okind, .string otag, .int .i64 on, .int .i64 ocell, .int .i64 ov] 31)) := (Upd.refl _ _).alloc _
        have Hp1 := hid_ (Hp.out.upd (S := fun _ => False) ((Upd.refl _ _).alloc (.cells #[.int .i64 okind, .string otag, .int .i64 on, .int .i64 ocell, .int .i64 ov] 31)) (fun h => h) (fun h => h))
        have Hu1 := hid_ (Hu.out.trans hu1)
        have hc1 : ((1 + k : Nat) : Int) < 9223372036854775807 := by omega
        clear Hp Hu hu1 hz c0 c1 c2 c3 c4
        rcases (by omega : okind = 0 ∨ okind = 1 ∨ okind = 2 ∨ okind = 3 ∨ okind = 4 ∨ okind = 5 ∨ (okind ≠ 0 ∧ okind ≠ 1 ∧ okind ≠ 2 ∧ okind ≠ 3 ∧ okind ≠ 4 ∧ okind ≠ 5)) with rfl | rfl | rfl | rfl | rfl | rfl | ⟨h0, h1, h2, h3, h4, h5⟩
        · have H := hid_ (take_any Hp1.out Hok.out otag on)
          go_wp2_with fail
          refine H.out.mono ?_
          rintro e w3 ⟨v1, rfl, _, hp, hu⟩
          have HX : Hid (KeepsR b bq w2 m (1 + (k + 1)) w3) := ⟨⟨_, hp, (Hok.out.take (by omega) _ _).mono (by omega), by rw [Pl.len_takeS]; exact Hlen.out⟩, Hu1.out.trans hu⟩
          clear hp hu H Hp1 Hu1 Hok
          go_wp2_with fail
          go_meet
          exact HX.out
        · have H := hid_ (reserve_any Hp1.out Hok.out on)
          go_wp2_with fail
          refine H.out.mono ?_
          rintro e w3 ⟨rfl, hp, hu⟩
          have HX : Hid (KeepsR b bq w2 m (1 + (k + 1)) w3) := ⟨⟨_, hp, (Hok.out.res _).mono (by omega), by rw [Pl.len_resS]; exact Hlen.out⟩, Hu1.out.trans hu⟩
          clear hp hu H Hp1 Hu1 Hok
          go_wp2_with fail
          go_meet
          exact HX.out
        · have H := hid_ (unreserve_any Hp1.out Hok.out on)
          go_wp2_with fail
          refine H.out.mono ?_
          rintro e w3 ⟨rfl, hp, hu⟩
          have HX : Hid (KeepsR b bq w2 m (1 + (k + 1)) w3) := ⟨⟨_, hp, (Hok.out.unres _).mono (by omega), by rw [Pl.len_unresS]; exact Hlen.out⟩, Hu1.out.trans hu⟩
          clear hp hu H Hp1 Hu1 Hok
          go_wp2_with fail
          go_meet
          exact HX.out
        · have H := hid_ (draw_any Hp1.out Hok.out otag on)
          go_wp2_with fail
          refine H.out.mono ?_
          rintro e w3 ⟨v1, rfl, _, hp, hu⟩
          have HX : Hid (KeepsR b bq w2 m (1 + (k + 1)) w3) := ⟨⟨_, hp, (Hok.out.draw (by omega) _ _).mono (by omega), by rw [Pl.len_drawS]; exact Hlen.out⟩, Hu1.out.trans hu⟩
          clear hp hu H Hp1 Hu1 Hok
          go_wp2_with fail
          go_meet
          exact HX.out
        · have H := hid_ (share_any Hp1.out Hok.out hc1 on)
          go_wp2_with fail
          refine H.out.mono ?_
          rintro e w3 ⟨rfl, hp, hu⟩
          have HX : Hid (KeepsR b bq w2 m (1 + (k + 1)) w3) := ⟨⟨_, hp, (Hok.out.share _).mono (by omega), by rw [Pl.len_shareS]; exact Hlen.out⟩, Hu1.out.trans hu⟩
          clear hp hu H Hp1 Hu1 Hok
          go_wp2_with fail
          go_meet
          exact HX.out
        · have H := hid_ (drop_any Hp1.out Hok.out hc1 on)
          go_wp2_with fail
          refine H.out.mono ?_
          rintro e w3 ⟨rfl, hp, hu⟩
          have HX : Hid (KeepsR b bq w2 m (1 + (k + 1)) w3) := ⟨⟨_, hp, (Hok.out.drop _ (by omega)).mono (by omega), by rw [Pl.len_dropS]; exact Hlen.out⟩, Hu1.out.trans hu⟩
          clear hp hu H Hp1 Hu1 Hok
          go_wp2_with fail
          go_meet
          exact HX.out
        · have b0 : (okind == 0) = false := beq_eq_false_iff_ne.2 h0
          have b1 : (okind == 1) = false := beq_eq_false_iff_ne.2 h1
          have b2 : (okind == 2) = false := beq_eq_false_iff_ne.2 h2
          have b3 : (okind == 3) = false := beq_eq_false_iff_ne.2 h3
          have b4 : (okind == 4) = false := beq_eq_false_iff_ne.2 h4
          have b5 : (okind == 5) = false := beq_eq_false_iff_ne.2 h5
          have HX : Hid (KeepsR b bq w2 m (1 + (k + 1)) (wr.alloc (.cells #[.int .i64 okind, .string otag, .int .i64 on, .int .i64 ocell, .int .i64 ov] 31))) := ⟨⟨_, Hp1.out, Hok.out.mono (by omega), Hlen.out⟩, Hu1.out⟩
          clear Hp1 Hu1 Hok h0 h1 h2 h3 h4 h5
          go_wp2_with fail
          go_meet
          exact HX.out
      case rest =>
        clear Hp Hok c0 c1 c2 c3 c4 Hu Hlen
        obtain ⟨⟨s', hp, hok, hlen⟩, hu⟩ := hcut
        have HX : Hid (KeepsR b bq w2 m (1 + (k + 1)) wc) := ⟨⟨s', hp, hok, hlen⟩, hu⟩
        have Hok := hid_ hok
        have Hlen := hid_ hlen
        have H := hid_ (sizes_any hp)
        have hl : s'.pages.length ≤ 256 := hok.len
        have HO := fun nd (i : Int) => hid_ (owners_any (hp.drewN nd) hl i)
        have HT := fun nd (i : Int) => hid_ (tag_any (hp.drewN nd) hl i)
        rw [hlen] at H
        have Hall : Hid (s'.free + s'.used m = m) := by
          have := Pl.used_all s'
          rw [hlen] at this
          exact this
        have ha0 := hok.a0
        have ha1 := hok.a1
        have hf0 := Pl.free_nonneg s'
        have hfl : s'.free ≤ m := by have := Pl.free_le s'; omega
        clear hp hok hlen hu hl
        go_wp2_with fail
        refine H.out.mono ?_
        rintro e w3 ⟨rfl, nd, rfl⟩
        go_wp2_with fail
        go_loopw [12, 13] (fun us i wr => ∃ j : Nat, j ≤ m ∧ i = .int .i64 j ∧ us = .int .i64 (s'.used j) ∧ wr = wc.drewN nd) (fun _ i _ => m - (intOf i).toNat)
        case atStart => exact ⟨0, Nat.zero_le _, rfl, rfl, rfl⟩
        case round =>
          obtain ⟨j, hj, rfl, rfl, rfl⟩ := hrel
          obtain ⟨hu0, hu1⟩ := Pl.used_bd s' j
          by_cases hjm : j < m
          · have Hus := hid_ (Pl.used_succ s' j)
            have HOj := HO nd j
            have HTj := HT nd j
            have htg := Hok.out.tag_page j
            have HJ := hid_ hj
            clear H HO HT
            rcases htg with ⟨g0, g1, g2⟩ | ⟨g0, g1, g2⟩
            · rw [g1] at HOj
              have Hus := hid_ (Hus.out.trans (by rw [if_pos g0]))
              have Hg2 := hid_ g2
              clear g0 g1 g2
              generalize s'.used j = us at *
              have e1 : ((s'.tagOf j).toList == []) = true := by rw [ByteArray.toList_eq, Hg2.out]; rfl
              have e2 : (s'.tagOf j).toList.isEmpty = true := by rw [ByteArray.toList_eq, Hg2.out]; rfl
              go_wp2_with fail
              refine HOj.out.mono ?_
              rintro e w4 ⟨rfl, rfl⟩
              go_wp2_with fail
              refine HOj.out.mono ?_
              rintro e w4 ⟨rfl, rfl⟩
              go_wp2_with fail
              refine HTj.out.mono ?_
              rintro e w4 ⟨rfl, rfl⟩
              go_wp2_with fail
              refine HOj.out.mono ?_
              rintro e w4 ⟨rfl, rfl⟩
              go_wp2_with fail
              go_roundw
              case rel => exact ⟨j + 1, by omega, by go_num, by first | (rw [Hus.out]; done) | (rw [Hus.out]; go_num), by first | rfl | trivial⟩
              case measure => simp [intOf]; omega
            · have hne : (s'.page j).own ≠ 0 := by omega
              have Hus := hid_ (Hus.out.trans (by rw [if_neg hne]))
              have Hg2 := hid_ g2
              clear g0 g2 hne
              generalize s'.used j = us at *
              generalize s'.owners j = ow at *
              have e1 : ((s'.tagOf j).toList == []) = false := by rw [ByteArray.toList_eq]; simpa using Hg2.out
              have e2 : (s'.tagOf j).toList.isEmpty = false := by rw [ByteArray.toList_eq]; simpa using Hg2.out
              go_wp2_with fail
              refine HOj.out.mono ?_
              rintro e w4 ⟨rfl, rfl⟩
              go_wp2_with fail
              refine HOj.out.mono ?_
              rintro e w4 ⟨rfl, rfl⟩
              go_wp2_with fail
              refine HTj.out.mono ?_
              rintro e w4 ⟨rfl, rfl⟩
              go_wp2_with fail
              refine HOj.out.mono ?_
              rintro e w4 ⟨rfl, rfl⟩
              go_wp2_with fail
              go_roundw
              case rel => exact ⟨j + 1, by omega, by go_num, by first | (rw [Hus.out]; done) | (rw [Hus.out]; go_num), by first | rfl | trivial⟩
              case measure => simp [intOf]; omega
          · obtain rfl : j = m := by omega
            have hall := Hall.out
            have e3 : (s'.free + s'.used j != (j : Int)) = false := by simpa using hall
            have HX := hid_ (show KeepsR b bq w2 j (1 + (k + 1)) (wc.drewN nd) from ⟨HX.out.ex.imp fun _ h => ⟨h.1.drewN nd, h.2⟩, HX.out.upd.drewN nd⟩)
            clear H HO HT hall Hok Hall Hlen
            generalize s'.used j = us at *
            generalize s'.free = fr at *
            generalize s'.aside = asd at *
            go_wp2_with fail
            go_roundg (ops.length + 1 - (k + 1))
            case measure => have := Hg.out; omega
            case rel => exact ⟨k + 1, rfl, by omega, by omega, by go_num, HX.out⟩
    · have H := hid_ (sizes_any hp)
      have HD := fun nd => hid_ (draw_any (hp.drewN nd) hok ⟨#[101, 110, 100]⟩ s.aside)
      obtain ⟨d1, d2⟩ := hok.drawAll
      rw [d1] at HD
      have HS : ∀ {W : World}, Hid (PoolAt W b bq (s.drawS ⟨#[101, 110, 100]⟩ s.aside) → Calls Try.prog 23 #[.pointer (some ⟨b, 0, none⟩)] W fun e w' =>
          ∃ x y, e = .returned (.tuple #[.int .i64 x, .int .i64 y, .int .i64 0]) ∧ ∃ n, w' = W.drewN n) := fun {W} => by
        intro hp
        have := sizes_any hp
        rw [d2] at this
        exact this.mono fun e w' ⟨h1, h2⟩ => ⟨_, _, h1, h2⟩
      clear hp hok d1 d2 Hcell
      rcases (by omega : ¬ k < ops.length ∨ (k < ops.length ∧ k = 100)) with hx | ⟨hx, hy⟩
      · have hke : k = ops.length := by omega
        clear hlt hx
        go_wp2_with fail
        refine H.out.mono ?_
        rintro e w3 ⟨rfl, nd, rfl⟩
        go_wp2_with fail
        refine (HD nd).out.mono ?_
        rintro e w4 ⟨v4, rfl, _, hp, hu⟩
        have HS2 := hid_ (HS.out hp)
        have HU := hid_ ((Hu.out.drewN nd).trans hu)
        clear hp hu HS HD H Hu Hlen
        go_wp2_with fail
        refine HS2.out.mono ?_
        rintro e w5 ⟨x, y, rfl, nd5, rfl⟩
        go_wp2_with fail
        go_ret
        exact ⟨rfl, HB.out.trans ((HU.out.drewN nd5).toBelow HB.out.size (fun k hk => by rcases hk with rfl | rfl <;> omega))⟩
      · subst hy
        clear hlt
        go_wp2_with fail
        refine H.out.mono ?_
        rintro e w3 ⟨rfl, nd, rfl⟩
        go_wp2_with fail
        refine (HD nd).out.mono ?_
        rintro e w4 ⟨v4, rfl, _, hp, hu⟩
        have HS2 := hid_ (HS.out hp)
        have HU := hid_ ((Hu.out.drewN nd).trans hu)
        clear hp hu HS HD H Hu Hlen
        go_wp2_with fail
        refine HS2.out.mono ?_
        rintro e w5 ⟨x, y, rfl, nd5, rfl⟩
        go_wp2_with fail
        go_ret
        exact ⟨rfl, HB.out.trans ((HU.out.drewN nd5).toBelow HB.out.size (fun k hk => by rcases hk with rfl | rfl <;> omega))⟩

set_option maxRecDepth 100000 in
open Go.ChangeShapes Go.WideShapes Go.ChangeAt in
theorem poolKeeps_args {H : Type} {enc : TypeId × Value → H} {W : World} {base : Nat} {v0 v1 : Value} {d0 d1 : DataW H} {p0 p1 : List MemPlace} {tv : List TypeId} {gs : List (DataW H)}
    (h0 : DataW.Trod enc Try.prog W 0 (fun _ => true) true 3 v0 d0 p0) (k0 : Value.okWide Try.prog W .any base 3 v0)
    (h1 : DataW.Trod enc Try.prog W 0 (fun _ => true) true 22 v1 d1 p1) (k1 : Value.okWide Try.prog W .any base 22 v1)
    (_hsz : (DataW.weightsEach Try.prog ([3, 22] ++ tv) ([d0, d1] ++ gs)).all (· ≤ reachBytes) = true) :
    Calls Try.prog 4 #[v0, v1] W (TruePost W) := by
  obtain ⟨a0, rfl, rfl, rfl, _⟩ := open_int Try.underlying3 k0 h0
  obtain ⟨ops, ho⟩ := ops_open h1 k1
  exact poolKeeps_walk a0 v1 ops W ho
end Go.Proofs.Ytelmolblcnolnaa
