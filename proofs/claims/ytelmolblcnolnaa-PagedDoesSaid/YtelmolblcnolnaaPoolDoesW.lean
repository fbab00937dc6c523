/- 'PoolDoes', walked: it returns true. No condition. -/
import Derived.Test.YtelmolblcnolnaaSame11
import Derived.Deep.DeepCutAuto
import Derived.Deep.LoopGhost
import Derived.Deep.CutBlock
namespace Go.Proofs.Ytelmolblcnolnaa
open Go.RowKit

structure DoesR (w : World) (b bq rb rq : Nat) (c : Int) (wr : World) : Prop where
  mk_ ::
  ex : ∃ s gs, Both wr b bq rb rq gs s ∧ s.Ok c ∧ ∀ q, bS b bq rb rq gs s.pages q → w.heap.size ≤ q
  bel : Below w.heap.size w wr
theorem DoesR.step {w wr w1 : World} {b bq rb rq : Nat} {gs : Nat → Nat} {s : Pl} {c : Int} (hb : Below w.heap.size w wr) (hq : ∀ q, bS b bq rb rq gs s.pages q → w.heap.size ≤ q) (h : BothTo wr b bq rb rq gs s c w1) : DoesR w b bq rb rq c w1 := by
  obtain ⟨s', gs', h1, h2, _, h4⟩ := h.ex
  refine ⟨⟨s', gs', h1, h2, fun q hk => ?_⟩, hb.trans (h.upd.toBelow hb.size hq)⟩
  rcases hk with hk | hk
  · exact hq q (.inl hk)
  · rcases h4 q hk with h5 | h5
    · exact hq q (.inr h5)
    · exact Nat.le_trans hb.size h5
theorem DoesR.still {w wr w1 : World} {b bq rb rq : Nat} {c : Int} (h : DoesR w b bq rb rq c wr) (hu : Upd (fun _ => False) wr w1) : DoesR w b bq rb rq c w1 := by
  obtain ⟨⟨s, gs, h1, h2, h3⟩, h4⟩ := h
  exact ⟨⟨s, gs, h1.keep0 hu, h2, h3⟩, h4.trans (hu.toBelow h4.size (fun _ h => h.elim))⟩

set_option maxHeartbeats 4000000 in
set_option maxRecDepth 100000 in
theorem poolDoes_walk (n : Int) (v : Value) (ops : List Opd) (w : World) (ho : OpsRd w v ops) :
    Calls Try.prog 6 #[.int .i64 n, v] w (TruePost w) := by
  obtain ⟨A, cp, rfl, hlc, hlm, hcell⟩ := ho
  have Hcell := hid_ hcell
  unfold maxLen at hlm
  clear hcell
  by_cases hn : Pl.newE n = 0
  · have HN := fun W => hid_ (new_any n W hn)
    have HRN := fun W => hid_ (rnew_any n W hn)
    have Hok0 : Hid ((Pl.new n).Ok 1) := Pl.ok_new hn (by omega)
    clear hn
    go_enter Try.func6, Try.ntmps6
    go_wp2_with fail
    refine (HN _).out.mono ?_
    rintro e w1 ⟨b, bq, rfl, hp, hB, hb, hq⟩
    have hp1 := hid_ hp
    have HB := hid_ hB
    clear hp hB
    go_wp2_with fail
    refine (HRN _).out.mono ?_
    rintro e w2 ⟨rb, rq, gs, rfl, hr, hB, hrs⟩
    have HR : Hid (DoesR w b bq rb rq 1 w2) := by
      refine ⟨⟨Pl.new n, gs, ⟨?_, hr⟩, Hok0.out, fun q hk => ?_⟩, HB.out.trans (hB.mono HB.out.size)⟩
      · exact hp1.out.upd (S := fun _ => False) (Upd.of_below hB) (fun h => h) (fun h => h)
      · rcases hk with (rfl | rfl) | hk
        · exact hb
        · exact hq
        · exact Nat.le_trans HB.out.size (hrs q hk)
    clear hr hB hrs hp1 HB HN HRN Hok0 hb hq
    go_wp2_with fail
    go_loopg [9] (ops.length + 1) (fun g i wr => ∃ k : Nat, g = ops.length + 1 - k ∧ k ≤ ops.length ∧ k ≤ 100 ∧ i = .int .i64 k ∧ DoesR w b bq rb rq (1 + k) wr)
    case atStart => exact ⟨0, rfl, Nat.zero_le _, Nat.zero_le _, rfl, HR.out⟩
    case round =>
      obtain ⟨k, hg, hk, hk2, rfl, hr⟩ := hrel
      have Hg := hid_ hg
      obtain ⟨⟨s, gs, hbo, hok, hbl⟩, hbe⟩ := hr
      have Hbo := hid_ hbo
      have Hok := hid_ hok
      have Hbl := hid_ hbl
      have Hbe := hid_ hbe
      clear HR hg hbl hok
      by_cases hlt : k < ops.length ∧ k < 100
      · obtain ⟨hlt, hlt2⟩ := hlt
        obtain ⟨b0, f0, rfl, hb0, hrng⟩ := Hcell.out k _ (List.getElem?_eq_getElem hlt)
        generalize hop : ops[k] = o at *
        clear hop
        have hst : ∀ j, wr.cell? ⟨b0, j, none⟩ = w.cell? ⟨b0, j, none⟩ := fun j => hbe.cell (p := ⟨b0, j, none⟩) hb0
        have c0 := (hst _).trans (hrng 0 _ rfl)
        have c1 := (hst _).trans (hrng 1 _ rfl)
        have c2 := (hst _).trans (hrng 2 _ rfl)
        have c3 := (hst _).trans (hrng 3 _ rfl)
        have c4 := (hst _).trans (hrng 4 _ rfl)
        rw [Nat.add_zero] at c0
        clear hst hrng
        obtain ⟨okind, otag, on, ocell, ov⟩ := o
        simp only at c0 c1 c2 c3 c4
        have hua : Upd (fun _ => False) wr (wr.alloc (.cells #[.int .i64 okind, .string otag, .int .i64 on, .int .i64 ocell, .int .i64 ov] 31)) := (Upd.refl _ _).alloc _
        have HAct : Hid (Calls Try.prog 29 #[.pointer (some ⟨b, 0, none⟩), .pointer (some ⟨rb, 0, none⟩), .agg #[.int .i64 okind, .string otag, .int .i64 on, .int .i64 ocell, .int .i64 ov]]
            (wr.alloc (.cells #[.int .i64 okind, .string otag, .int .i64 on, .int .i64 ocell, .int .i64 ov] 31)) (ActPost _ b bq rb rq gs s ((1 + k : Int) + 1))) :=
          act_any (hbo.keep0 hua) Hok.out (by omega) (by omega) ⟨okind, otag, on, ocell, ov⟩
        have Hua := hid_ hua
        have HC : Hid (∀ (j : Nat) (x : Value) (W : World), Upd (bS b bq rb rq gs s.pages) (wr.alloc (.cells #[.int .i64 okind, .string otag, .int .i64 on, .int .i64 ocell, .int .i64 ov] 31)) W →
            (#[.int .i64 okind, .string otag, .int .i64 on, .int .i64 ocell, .int .i64 ov] : Array Value)[j]? = some x → W.cell? ⟨wr.heap.size, j, none⟩ = some x) := by
          intro j x W hu hx
          rw [hu.cell (p := ⟨wr.heap.size, j, none⟩) (by simp) (fun hk => by have := Hbo.out.lt hk; simp at this), (Blk.new wr 31 _).cell, hx]
        clear hbo hbe hua
        go_wp2_with fail
        refine HAct.out.mono ?_
        rintro e w4 ⟨rfl, hbt⟩
        have HR4 : Hid (DoesR w b bq rb rq (1 + (k + 1 : Nat)) w4) := DoesR.step Hbe.out Hbl.out ((hbt.back Hua.out).mono (by omega))
        have d1 := HC.out 1 _ w4 hbt.upd rfl
        have d2 := HC.out 2 _ w4 hbt.upd rfl
        have d3 := HC.out 3 _ w4 hbt.upd rfl
        clear HC HAct hbt Hua c0 c1 c2 c3 c4 Hbo Hok Hbl Hbe
        obtain ⟨⟨s', gs', hbo, hok, _⟩, _⟩ := HR4.out
        have G1 := hid_ (get_any hbo.p hok.len on ocell)
        have G2 := hid_ (rget_any hbo.r hok on ocell)
        have C1 := fun nd => hid_ (count_any (hbo.p.drewN nd) hok.len otag)
        have C2 := fun nd => hid_ (rcount_any (hbo.r.drewN nd) hok.len otag)
        have HS := fun nd => hid_ (same11_any (hbo.keep0 ((Upd.refl _ _).drewN nd)) hok)
        generalize s'.get on ocell = x at *
        generalize s'.cellE on ocell = y at *
        generalize s'.count otag = z at *
        clear hbo hok
        have b1 : (x != x) = false := bne_self_eq_false x
        have b2 : (y != y) = false := bne_self_eq_false y
        go_wp2_with fail
        refine G1.out.mono ?_
        rintro e w5 ⟨rfl, rfl⟩
        go_wp2_with fail
        refine G2.out.mono ?_
        rintro e w5 ⟨rfl, rfl⟩
        go_wp2_with fail
        go_quiet ((first | (go_at_call 18; exact Calls.quiet_of_same (Calls.mono (C1 _).out (fun _ _ ⟨x, y⟩ => ⟨x, y.symm⟩))) | (go_at_call 31; exact Calls.quiet_of_same (Calls.mono (C2 _).out (fun _ _ ⟨x, y⟩ => ⟨x, y.symm⟩)))))
        by_cases h5 : (k : Int) % 5 = 0
        · have e5 : ((k : Int) % 5 == 0) = true := by rw [h5]; rfl
          clear h5
          go_wp2_with fail
          refine (HS _).out.mono ?_
          rintro e w6 ⟨rfl, hu6⟩
          have HR6 := hid_ (HR4.out.still (((Upd.refl _ _).drewN _).trans hu6))
          clear hu6
          go_wp2_with fail
          go_roundg (ops.length + 1 - (k + 1))
          case measure => have := Hg.out; omega
          case rel => exact ⟨k + 1, rfl, by omega, by omega, by go_num, HR6.out⟩
        · have e5 : ((k : Int) % 5 == 0) = false := beq_eq_false_iff_ne.2 h5
          have HR6 := fun nd => hid_ (HR4.out.still ((Upd.refl _ _).drewN nd))
          clear h5
          go_wp2_with fail
          go_roundg (ops.length + 1 - (k + 1))
          case measure => have := Hg.out; omega
          case rel => exact ⟨k + 1, rfl, by omega, by omega, by go_num, (HR6 _).out⟩
      · have HS := hid_ (same11_any hbo Hok.out)
        have hd : k = ops.length ∨ (k < ops.length ∧ k = 100) := by omega
        clear hlt hbo hbe Hcell
        rcases hd with hd | ⟨hd, hd2⟩
        · subst hd
          go_wp2_with fail
          refine HS.out.mono ?_
          rintro e w6 ⟨rfl, hu6⟩
          have HB6 := hid_ (Hbe.out.trans (hu6.toBelow Hbe.out.size (fun _ h => h.elim)))
          clear hu6
          go_wp2_with fail
          go_ret
          exact ⟨rfl, HB6.out⟩
        · subst hd2
          go_wp2_with fail
          refine HS.out.mono ?_
          rintro e w6 ⟨rfl, hu6⟩
          have HB6 := hid_ (Hbe.out.trans (hu6.toBelow Hbe.out.size (fun _ h => h.elim)))
          clear hu6
          go_wp2_with fail
          go_ret
          exact ⟨rfl, HB6.out⟩
  · have HN := fun W => hid_ (new_no n W hn)
    have HRN := fun W => hid_ (rnew_no n W hn)
    clear hn
    go_enter Try.func6, Try.ntmps6
    go_wp2_with fail
    refine (HN _).out.mono ?_
    rintro e w1 ⟨rfl, rfl⟩
    go_wp2_with fail
    refine (HRN _).out.mono ?_
    rintro e w1 ⟨rfl, rfl⟩
    go_wp2_with fail
    go_ret
    exact ⟨rfl, Below.refl _ _⟩

set_option maxRecDepth 100000 in
open Go.ChangeShapes Go.WideShapes Go.ChangeAt in
theorem poolDoes_args {H : Type} {enc : TypeId × Value → H} {W : World} {base : Nat} {v0 v1 : Value} {d0 d1 : DataW H} {p0 p1 : List MemPlace} {tv : List TypeId} {gs : List (DataW H)}
    (h0 : DataW.Trod enc Try.prog W 0 (fun _ => true) true 3 v0 d0 p0) (k0 : Value.okWide Try.prog W .any base 3 v0)
    (h1 : DataW.Trod enc Try.prog W 0 (fun _ => true) true 22 v1 d1 p1) (k1 : Value.okWide Try.prog W .any base 22 v1)
    (_hsz : (DataW.weightsEach Try.prog ([3, 22] ++ tv) ([d0, d1] ++ gs)).all (· ≤ reachBytes) = true) :
    Calls Try.prog 6 #[v0, v1] W (TruePost W) := by
  obtain ⟨a0, rfl, rfl, rfl, _⟩ := open_int Try.underlying3 k0 h0
  obtain ⟨ops, ho⟩ := ops_open h1 k1
  exact poolDoes_walk a0 v1 ops W ho
end Go.Proofs.Ytelmolblcnolnaa
