/- 'PoolLeast', walked: it returns true. No condition. -/
import Derived.Test.YtelmolblcnolnaaWorks11
import Derived.Test.YtelmolblcnolnaaPoolActs
import Derived.Deep.DeepCutAuto
import Derived.Deep.LoopGhost
import Derived.Deep.CutBlock
import Derived.Deep.RegionHeld3
namespace Go.Proofs.Ytelmolblcnolnaa
open Go.RowKit

def tX : ByteArray := ⟨#[120]⟩
def tY : ByteArray := ⟨#[121]⟩
def usedV (p : Pg) : Value := .bool (p.own != 0)
/-- The row of bools that says which pages are used. -/
def UB (w : World) (ub : Nat) (l : List Pg) : Prop := Blk w ub 4 ((l.map usedV).toArray)
theorem UB.cell {w : World} {ub : Nat} {l : List Pg} (h : UB w ub l) {i : Nat} {p : Pg} (hp : l[i]? = some p) : w.cell? ⟨ub, i, none⟩ = some (.bool (p.own != 0)) := by
  rw [Blk.cell h i]
  simp [hp, usedV]
theorem UB.set {w : World} {ub : Nat} {l : List Pg} (h : UB w ub l) (i : Nat) (p : Pg) (x : Bool) (hx : (p.own != 0) = x) : UB (w.setCell ⟨ub, i, none⟩ (.bool x)) ub (l.set i p) := by
  have h2 := Blk.set_ h i (.bool x)
  unfold UB
  have e : ((l.set i p).map usedV).toArray = ((l.map usedV).toArray).setIfInBounds i (.bool x) := by
    rw [List.map_set]
    simp [usedV, hx]
  rw [e]
  exact h2
def s3 (b bq ub : Nat) : Nat → Prop := fun k => k = b ∨ k = bq ∨ k = ub

def LeastUB (w : World) (ub x nd : Nat) (l : List Pg) : Prop := UB ((w.drewN nd).setCell ⟨ub, x, none⟩ (.bool true)) ub l
structure LeastR (b bq ub : Nat) (w2 : World) (m : Nat) (wr : World) : Prop where
  mk_ ::
  ex : ∃ s : Pl, PoolAt wr b bq s ∧ s.Ok 1 ∧ s.pages.length = m ∧ s.aside = 0 ∧ (∀ p ∈ s.pages, p.own ≠ 0 → p.tag = tX) ∧ UB wr ub s.pages
  upd : Upd (s3 b bq ub) w2 wr

theorem tagX_take {s : Pl} (h : ∀ p ∈ s.pages, p.own ≠ 0 → p.tag = tX) (k : Int) : ∀ p ∈ (s.takeAll tX k).pages, p.own ≠ 0 → p.tag = tX := by
  intro q hq hn
  obtain ⟨i, hi⟩ := List.mem_iff_getElem?.1 hq
  change (putAt tX s.pages (s.takeIx k))[i]? = some q at hi
  rw [putAt_get] at hi
  split at hi
  · injection hi with hi; subst hi; rfl
  · exact h q (List.mem_of_getElem? hi) hn
theorem tagX_zero {s : Pl} (h : ∀ p ∈ s.pages, p.own ≠ 0 → p.tag = tX) (n : Int) : ∀ p ∈ (s.setPg n Pg.zero).pages, p.own ≠ 0 → p.tag = tX := by
  intro q hq hn
  rcases List.mem_or_eq_of_mem_set hq with h1 | h1
  · exact h q h1 hn
  · subst h1; exact absurd rfl hn
theorem count_tY {s : Pl} (h : ∀ p ∈ s.pages, p.own ≠ 0 → p.tag = tX) : s.count tY = 0 := by
  unfold Pl.count
  rw [List.countP_eq_zero.2]
  · rfl
  · intro p hp
    by_cases h0 : p.own = 0
    · rw [h0]; simp
    · rw [h p hp h0]
      simp [tX, tY]
theorem takeE_X {s : Pl} (ha : s.aside = 0) (k : Nat) : s.takeE tX k = if s.free < k then 6 else 0 := by
  unfold Pl.takeE Pl.ask
  rw [if_neg (fun h => h.elim (fun e => by cases e) (by omega)), ha, Int.sub_zero]
theorem set_self {l : List Pg} {i : Nat} {p : Pg} (h : l[i]? = some p) : l.set i p = l := List.ext_getElem? fun j => by
  by_cases e : i = j
  · subst e
    rw [List.getElem?_set_self (List.getElem?_eq_some_iff.1 h).1, h]
  · rw [List.getElem?_set_ne e]
theorem tk_len (l : List Pg) (k i : Nat) : (tk l k i).length = min k (freeIx l i).length := by unfold tk; rw [List.length_take]

set_option maxHeartbeats 4000000 in
set_option maxRecDepth 100000 in
theorem poolLeast_walk (n : Int) (v : Value) (ops : List Opd) (w : World) (ho : OpsRd w v ops) :
    Calls Try.prog 3 #[.int .i64 n, v] w (TruePost w) := by
  have u1 : 0 ≤ IntKind.u64.wrap n := by
    rw [IntKind.wrap_u64]
    omega
  obtain ⟨A, cp, rfl, hlc, hlm, hcell⟩ := ho
  have Hcell := hid_ hcell
  obtain ⟨ib, hib, hzb, hzb1, hzb2⟩ := info_parts (show (Try.prog.info? 4).map (fun i => (i.zero, i.size, i.bytes)) = some (some (.bool false), 1, 1) by kernel_rfl)
  obtain ⟨ii, hii, hzi, hzi1, hzi2⟩ := info_parts Try.infoInt
  unfold maxLen at hlm
  clear hcell
  go_enter Try.func3, Try.ntmps3
  go_wp2_with fail
  refine (works11 _).mono ?_
  rintro e w1 ⟨rfl, hB⟩
  have HB := hid_ hB
  clear hB
  have n0 : 0 ≤ IntKind.u64.wrap n % 64 ∧ IntKind.u64.wrap n % 64 < 64 := by omega
  obtain ⟨n0, n1⟩ := n0
  go_wp2_with fail
  obtain ⟨m, hm⟩ := Int.eq_ofNat_of_zero_le (show 0 ≤ 1 + IntKind.u64.wrap n % 64 by omega)
  have hm1 : 1 ≤ m := by omega
  have hm2 : m ≤ 64 := by omega
  rw [hm]
  generalize IntKind.u64.wrap n = un at *
  clear hm n0 n1 u1
  refine (new_any m _ (by unfold Pl.newE; rw [if_neg (by omega)])).mono ?_
  rintro e w2 ⟨b, bq, rfl, hp, hB, hb, hq⟩
  have hb1 : b < w2.heap.size := hp.hb.lt
  have hq1 : bq < w2.heap.size := Blk.ex_lt hp.tq
  have hwb : w.heap.size ≤ b := Nat.le_trans HB.out.size hb
  have hwq : w.heap.size ≤ bq := Nat.le_trans HB.out.size hq
  have HB := hid_ (HB.out.trans (hB.mono HB.out.size))
  have Hp := hid_ hp
  clear hB hb hq hp
  go_wp2_with (at_make; refine wpList_make_full _ rfl _ _ 29 rfl w2.heap.size 4 ib (.bool false) 1 Try.underlying29 hib hzb hzb1 _ _ _ _ m rfl rfl rfl rfl ?b2 ?b3 (Nat.le_refl _) ?_)
  case b2 => rw [hzb2]; omega
  case b3 => unfold maxLen; omega
  intro w3 hown hgrow
  obtain ⟨ub, hub⟩ : ∃ ub, ub = w2.heap.size := ⟨_, rfl⟩
  have HR : Hid (LeastR b bq ub w2 m w3) := by
    rcases hown.2 with ⟨h1, _⟩ | ⟨g, cap, cur, hv, hg, hh, hc, hm, hz, ht⟩
    · cases h1
    injection hv with hv _ hcap
    injection hv with hv
    injection hv with hv _ _
    subst hv hcap
    rw [List.take_of_length_le (by rw [Array.length_toList]; omega)] at ht
    have hu : Upd (fun _ => False) w2 w3 := (Upd.refl _ _).grown hgrow (fun _ h => by cases h)
    refine ⟨⟨Pl.new m, Hp.out.upd hu (fun h => h) (fun h => h), Pl.ok_new (by unfold Pl.newE; rw [if_neg (by omega)]) (by omega), by rw [Pl.len_new]; exact Int.toNat_natCast m, rfl, fun p hp hn => ?_, ?_⟩, hu.mono (fun _ _ h => h.elim)⟩
    · exact absurd (by rw [(List.mem_replicate.1 hp).2]; rfl) hn
    · subst hub
      show Blk _ _ _ _
      have e : cur = (((Pl.new m).pages.map usedV).toArray) := by
        apply Array.toList_inj.1
        rw [ht]
        have e0 : (Pl.new (m : Int)).pages = List.replicate m Pg.zero := by
          show List.replicate (m : Int).toNat Pg.zero = _
          rw [Int.toNat_natCast]
        rw [e0, List.map_replicate]
        simp [toList_madeCells_one, usedV, Pg.zero]
      rw [← e]
      exact hh
  have hubw : w.heap.size ≤ ub := by rw [hub]; exact HB.out.size
  have hub1 : ub < w3.heap.size := by obtain ⟨⟨s, h⟩, _⟩ := HR.out; exact Blk.lt h.2.2.2.2.2
  rw [← hub]
  clear hown hgrow Hp hub
  go_wp2_with fail
  go_loopg [8] (ops.length + 1) (fun g i wr => ∃ k : Nat, g = ops.length + 1 - k ∧ k ≤ ops.length ∧ k ≤ 60 ∧ i = .int .i64 k ∧ LeastR b bq ub w2 m wr)
  case atStart => exact ⟨0, rfl, Nat.zero_le _, Nat.zero_le _, rfl, HR.out⟩
  case round =>
    obtain ⟨k, hg, hk, hk2, rfl, hr⟩ := hrel
    have Hg := hid_ hg
    have Hr := hid_ hr
    obtain ⟨⟨s, hp, hok, hlen, has, htag, hus⟩, hu⟩ := hr
    have Hlen := hid_ hlen
    have Hu := hid_ hu
    have Has := hid_ has
    have Htag := hid_ htag
    have Hus := hid_ hus
    clear HR hg hu hlen has htag
    by_cases hlt : k < ops.length ∧ k < 60
    · obtain ⟨hlt, hlt2⟩ := hlt
      obtain ⟨b0, f0, rfl, hb0, hrng⟩ := Hcell.out k _ (List.getElem?_eq_getElem hlt)
      generalize hop : ops[k] = o at *
      clear hop
      have hst : ∀ j, wr.cell? ⟨b0, j, none⟩ = w.cell? ⟨b0, j, none⟩ := fun j => by
        have h1 := Hu.out.cell (p := ⟨b0, j, none⟩) (by show b0 < _; have := HB.out.size; omega) (by rintro (h | h | h) <;> (simp only at h; omega))
        exact h1.trans (HB.out.cell (p := ⟨b0, j, none⟩) hb0)
      have c0 := (hst _).trans (hrng 0 _ rfl)
      have c2 := (hst _).trans (hrng 2 _ rfl)
      rw [Nat.add_zero] at c0
      clear hst hrng
      obtain ⟨okind, otag, on, ocell, ov⟩ := o
      simp only at c0 c2
      have Hp := hid_ hp
      have Hok := hid_ hok
      clear hp hok hus
      have v0 : 0 ≤ IntKind.u64.wrap on := by
        rw [IntKind.wrap_u64]
        omega
      by_cases hkd : okind = 5
      · subst hkd
        have q0 : 0 ≤ IntKind.u64.wrap on % (m : Int) ∧ IntKind.u64.wrap on % (m : Int) < m := ⟨Int.emod_nonneg _ (by omega), Int.emod_lt_of_pos _ (by omega)⟩
        obtain ⟨q0, q1⟩ := q0
        go_upto_region 12 with fail
        generalize IntKind.u64.wrap on % (m : Int) = q at *
        obtain ⟨i, rfl⟩ := Int.eq_ofNat_of_zero_le q0
        have hlen := Hlen.out
        have him : i < s.pages.length := by omega
        have hpi : s.pages[i]? = some (s.page (i : Int)) := pl_page_get him
        have cu := UB.cell Hus.out hpi
        have Hne := hid_ (Blk.ne_ Hus.out Hp.out.hb (by decide))
        have Hnq := hid_ (Blk.ex_ne ⟨_, Hus.out⟩ Hp.out.tq (by decide))
        have HD := fun nd => hid_ (drop_any (Hp.out.drewN nd) Hok.out (by decide) (i : Int))
        have hoc := Hok.out.page_own (by decide) (i : Int)
        have him2 : (i : Int) < (m : Int) := by omega
        clear c0 c2 q0 q1 hlen
        have HU4 : ∀ W', Hid (Upd (pS b bq) (wr.drewN 1) W' → UB W' ub s.pages ∧ Upd (s3 b bq ub) w2 W') := fun W' hu4 => ⟨Blk.upd (w := wr.drewN 1) Hus.out hu4 (by rintro (h | h); exact Hne.out h; exact Hnq.out h), (Hu.out.drewN 1).trans (hu4.mono (fun _ _ h => h.elim .inl (fun h => .inr (.inl h))))⟩
        have hset : ∀ (W' : World) (s' : Pl) (p' : Pg), Hid (PoolAt W' b bq s' → s'.Ok 1 → s'.pages.length = m → s'.aside = 0 → (∀ p ∈ s'.pages, p.own ≠ 0 → p.tag = tX) → UB W' ub s.pages → Upd (s3 b bq ub) w2 W' → s'.pages = s.pages.set i p' → p'.own = 0 → LeastR b bq ub w2 m (W'.setCell ⟨ub, i, none⟩ (.bool false))) := by
          intro W' s' p' hp' hok' hlen' ha' ht' hu' hud' hpp h0
          refine ⟨⟨s', hp'.upd (Upd.setCell (Upd.refl (fun j => j = ub) _) (p := ⟨ub, i, none⟩) (.inl rfl) _) (fun h => Hne.out h.symm) (fun h => Hnq.out h.symm), hok', hlen', ha', ht', ?_⟩, hud'.setCell (.inl (.inr (.inr rfl))) _⟩
          rw [hpp]
          exact UB.set hu' i p' false (by rw [h0]; rfl)
        by_cases ho : (s.page i).own = 0
        · have e1 : s.noneE (i : Int) = 25 := by unfold Pl.noneE; rw [if_pos ho]
          have e2 : s.dropS (i : Int) = s := by unfold Pl.dropS; rw [if_pos ho]
          rw [ho] at cu
          simp only [bne_self_eq_false] at cu
          have HS := fun W' => hid_ (fun (hp' : PoolAt W' b bq s) h1 h2 => (hset W' s (s.page i)).out hp' Hok.out Hlen.out Has.out Htag.out h1 h2 (set_self hpi).symm ho)
          have HC : ∀ W', Hid (UB W' ub s.pages → W'.cell? ⟨ub, i, none⟩ = some (.bool false) ∧ W'.frozen? ⟨ub, i, none⟩ = false) := fun W' h => ⟨by have := UB.cell h hpi; rw [ho] at this; exact this, Blk.frozen h i⟩
          rw [e1, e2] at HD
          clear e1 e2 ho hoc hpi hset
          go_region_held3 (fun w' => w'.cell? ⟨ub, i, none⟩ = some (.bool false)) (go_keep) ((go_at_call 16; refine (HD 1).out.mono ?_; rintro e w4 ⟨rfl, hp4, hu4⟩; have HP4 := hid_ hp4; have HX4 := hid_ ((HU4 w4).out hu4); obtain ⟨cu4, fu4⟩ := (HC w4).out HX4.out.1; clear hp4 hu4))
          have HL := hid_ ((HS w4).out HP4.out HX4.out.1 HX4.out.2)
          clear HS HC HD HU4 HP4 HX4
          go_wp2_with fail
          go_roundg (ops.length + 1 - (k + 1))
          case measure => have := Hg.out; omega
          case rel => exact ⟨k + 1, rfl, by omega, by omega, by go_num, HL.out⟩
        · have h1 : (s.page i).own = 1 := by omega
          have e1 : s.noneE (i : Int) = 0 := by unfold Pl.noneE; rw [if_neg ho]
          have e2 : s.dropS (i : Int) = s.setPg i Pg.zero := by unfold Pl.dropS; rw [if_neg ho, if_pos h1]
          rw [h1] at cu
          rw [show ((1 : Int) != 0) = true from rfl] at cu
          have hok2 := Hok.out.drop (i : Int) (by decide)
          rw [e2] at hok2
          have HS := fun W' => hid_ (fun (hp' : PoolAt W' b bq (s.setPg i Pg.zero)) h3 h2 => (hset W' (s.setPg i Pg.zero) Pg.zero).out hp' hok2 (by rw [Pl.len_setPg]; exact Hlen.out) Has.out (tagX_zero Htag.out _) h3 h2 rfl rfl)
          have HC : ∀ W', Hid (UB W' ub s.pages → W'.cell? ⟨ub, i, none⟩ = some (.bool true) ∧ W'.frozen? ⟨ub, i, none⟩ = false) := fun W' h => ⟨by have := UB.cell h hpi; rw [h1] at this; exact this, Blk.frozen h i⟩
          rw [e1, e2] at HD
          clear e1 e2 ho h1 hoc hpi hset hok2
          go_region_held3 (fun w' => w'.cell? ⟨ub, i, none⟩ = some (.bool true)) (go_keep) ((go_at_call 16; refine (HD 1).out.mono ?_; rintro e w4 ⟨rfl, hp4, hu4⟩; have HP4 := hid_ hp4; have HX4 := hid_ ((HU4 w4).out hu4); obtain ⟨cu4, fu4⟩ := (HC w4).out HX4.out.1; clear hp4 hu4))
          have HL := hid_ ((HS w4).out HP4.out HX4.out.1 HX4.out.2)
          clear HS HC HD HU4 HP4 HX4
          go_wp2_with fail
          go_roundg (ops.length + 1 - (k + 1))
          case measure => have := Hg.out; omega
          case rel => exact ⟨k + 1, rfl, by omega, by omega, by go_num, HL.out⟩
      · have b5 : (okind == 5) = false := beq_eq_false_iff_ne.2 hkd
        have k0 : 0 ≤ IntKind.u64.wrap on % 8 ∧ IntKind.u64.wrap on % 8 < 8 := by omega
        obtain ⟨k0, k1⟩ := k0
        have Hus0 := Hus.out
        have d60 : decide ((k : Int) < 60) = true := decide_eq_true (by omega)
        clear hkd
        go_upto_region 16 with fail
        generalize IntKind.u64.wrap on % 8 = K at *
        obtain ⟨K, rfl⟩ := Int.eq_ofNat_of_zero_le k0
        have Hus := hid_ Hus0
        have hhw : ub < wr.heap.size := Blk.lt Hus0
        have hbw : b < wr.heap.size := Hp.out.hb.lt
        have hqw : bq < wr.heap.size := Blk.ex_lt Hp.out.tq
        have hKl : (K : Int) < 8 := k1
        obtain ⟨W, hW⟩ : ∃ W, W = tk s.pages K m := ⟨_, rfl⟩
        have HW := hid_ hW
        clear c0 c2 Hus0 k0 k1 hW v0 b5
        go_wp2_with fail
        obtain ⟨wq, hwq⟩ : ∃ wq : World, wq = wr := ⟨_, rfl⟩
        subst hwq
        go_loopw [10, 11] (fun vv jv wx => ∃ (j mm c' : Nat) (A' : Option Addr), j ≤ m ∧ jv = .int .i64 j ∧ mm = (tk s.pages K j).length ∧ vv = .slice A' mm c' ∧ wx.ownsRow wq.heap.size 3 1 (.slice A' mm c') mm (natVals (tk s.pages K j)) ∧ Upd (fun _ => False) wq wx)
          (fun _ jv _ => m - (intOf jv).toNat)
        case atStart =>
          have e0 : tk s.pages K 0 = [] := by unfold tk freeIx; simp
          exact ⟨0, 0, 0, none, Nat.zero_le _, rfl, by rw [e0]; rfl, rfl, by rw [e0]; exact own_nil _ _ _, Upd.refl _ _⟩
        case round =>
          obtain ⟨j, mm, c', A', hj, rfl, hmm, rfl, hown, hux⟩ := hrel
          have Hmm := hid_ hmm
          have hmK : mm ≤ K := by rw [hmm]; exact tk_le _ _ _
          have Hown := hid_ hown
          have Hux := hid_ hux
          clear hmm hown hux
          by_cases hin : j < m ∧ mm < K
          · obtain ⟨hjm, hmK2⟩ := hin
            have hlen := Hlen.out
            have hpj : s.pages[j]? = some (s.page (j : Int)) := pl_page_get (by omega)
            have ux : UB wr ub s.pages := Blk.upd (w := wq) Hus.out Hux.out (fun h => h)
            have cu := UB.cell ux hpj
            have hgj : s.pages.getD j Pg.zero = s.page (j : Int) := (pl_page_nat s j).symm
            have Hpj := hid_ hgj
            clear hlen hpj ux hgj
            by_cases ho : (s.page j).own = 0
            · rw [ho] at cu
              rw [show ((0 : Int) != 0) = false from rfl] at cu
              have Ht := hid_ (tk_free (l := s.pages) (k := K) (i := j) (by rw [← Hmm.out]; exact hmK2) (by rw [Hpj.out]; exact ho))
              clear ho
              go_wp2_with (at_builtin; refine wpList_append_own _ rfl (.tmp 91) (.tmp 93) 33 rfl wq.heap.size 3 ii (.int .i64 0) 1 8 Try.underlying33 hii hzi hzi1 hzi2 rfl (by decide) _ mm _ rfl (Hown.out.alloc _) ⟨wr.heap.size, 0, none⟩ 1 1 [.int .i64 (j : Int)] rfl rfl (one_new rfl) (one_cell rfl) ?c3 ?c4 ?c5 ?_)
              case c3 => unfold maxLen; omega
              case c4 => omega
              case c5 => have := Hux.out.size; simp; omega
              intro v' w5 hown5 hgrow5 hnil5
              have hform : ∃ A5 c5, v' = .slice A5 (mm + 1) c5 := by
                rcases hown5.2 with ⟨_, h0⟩ | ⟨g, cap, cur, hv, _⟩
                · omega
                · exact ⟨_, _, hv⟩
              obtain ⟨A5, c5, rfl⟩ := hform
              have HX5 := hid_ ((Hux.out.alloc _).grown hgrow5 (fun g hg => by
                have := hown5
                rcases Hown.out.2 with ⟨h0, _⟩ | ⟨g', cap, cur, hv, hb', _⟩
                · injection h0 with h0 _ _
                  subst h0
                  cases hg
                · injection hv with hv _ _
                  subst hv
                  injection hg with hg
                  subst hg
                  exact .inr hb'))
              have HO5 := hid_ hown5
              clear hgrow5 hown5 hnil5
              go_wp2_with fail
              go_roundw
              case rel =>
                have hrel2 : ∃ (j' mm' c'' : Nat) (A'' : Option Addr), j' ≤ m ∧ Value.int .i64 ((j : Int) + 1) = .int .i64 j' ∧ mm' = (tk s.pages K j').length ∧ Value.slice A5 (mm + 1) c5 = .slice A'' mm' c'' ∧ w5.ownsRow wq.heap.size 3 1 (.slice A'' mm' c'') mm' (natVals (tk s.pages K j')) ∧ Upd (fun _ => False) wq w5 := ⟨j + 1, mm + 1, c5, A5, by omega, by go_num, by rw [Ht.out, List.length_append, ← Hmm.out]; rfl, rfl, by rw [Ht.out, natVals_snoc]; exact HO5.out, HX5.out⟩
                first | exact hrel2 | ((repeat apply Exists.intro); exact ⟨hrel2, rfl⟩)
              case measure => simp [intOf]; omega
            · have hbt : ((s.page j).own != 0) = true := by rw [bne_iff_ne]; exact ho
              rw [hbt] at cu
              have Ht := hid_ (tk_used (l := s.pages) (k := K) (i := j) (by rw [Hpj.out]; exact ho))
              clear ho hbt
              go_wp2_with fail
              go_roundw
              case rel => exact ⟨j + 1, mm, c', A', by omega, by go_num, by rw [Ht.out]; exact Hmm.out, rfl, by rw [Ht.out]; exact Hown.out, Hux.out⟩
              case measure => simp [intOf]; omega
          · have HWj : Hid (tk s.pages K j = W) := by
              show _ = _
              rw [HW.out]
              rcases (by omega : j = m ∨ mm = K) with h | h
              · rw [h]
              · have := Hlen.out
                rw [tk_done (by omega) (by rw [← Hmm.out]; exact h), this]
            have HmW : Hid (mm = W.length) := by
              show _ = _
              rw [← HWj.out]; exact Hmm.out
            rw [HWj.out] at Hown
            have hpx : PoolAt wr b bq s := Hp.out.upd Hux.out (fun h => h) (fun h => h)
            have HT := hid_ (take_any hpx Hok.out tX K)
            rw [takeE_X Has.out] at HT
            have hWl : W.length = min K (freeIx s.pages s.pages.length).length := by
              rw [HW.out, tk_len, Hlen.out]
            have hf : s.free = ((freeIx s.pages s.pages.length).length : Nat) := rfl
            have hd : (¬ (j < m)) ∨ (j < m ∧ K ≤ mm) := by omega
            have Hus2 : Hid (UB wr ub s.pages) := Blk.upd (w := wq) Hus.out Hux.out (fun h => h)
            have hu2 := hid_ (Hu.out.trans (Hux.out.mono (fun _ _ h => h.elim)))
            clear hin hpx Hmm HWj
            have Hne := hid_ (Blk.ne_ Hus.out Hp.out.hb (by decide))
            have Hnq := hid_ (Blk.ex_ne ⟨_, Hus.out⟩ Hp.out.tq (by decide))
            have hWsz : W.length ≤ K := by omega
            have HWlt : Hid (∀ (i : Nat) (x : Nat), W[i]? = some x → x < m) := by
              intro i x hx
              have := List.mem_of_getElem? hx
              rw [HW.out] at this
              exact tk_lt this
            rcases Nat.lt_or_ge (freeIx s.pages s.pages.length).length K with hfK | hfK
            · have e1 : s.free < K := by omega
              rw [if_pos e1] at HT
              have e2 : s.takeL tX K = [] := by unfold Pl.takeL; rw [if_neg (by rw [takeE_X Has.out, if_pos e1]; decide)]
              have e3 : s.takeS tX K = s := by unfold Pl.takeS; rw [if_neg (by rw [takeE_X Has.out, if_pos e1]; decide)]
              rw [e2, e3] at HT
              have hmK3 : (mm : Int) < K := by have := HmW.out; omega
              have e4 : decide ((mm : Int) < (K : Int)) = true := decide_eq_true hmK3
              clear e1 e2 e3 hf hWl hfK hWsz
              have HL : ∀ W', Hid (PoolAt W' b bq s → Upd (pS b bq) wr W' → LeastR b bq ub w2 m W') := fun W' hp' hu' =>
                ⟨⟨s, hp', Hok.out, Hlen.out, Has.out, Htag.out, Blk.upd (w := wr) Hus2.out hu' (by rintro (h | h); exact Hne.out h; exact Hnq.out h)⟩, hu2.out.trans (hu'.mono (fun _ _ h => h.elim .inl (fun h => .inr (.inl h))))⟩
              rcases hd with hd | ⟨hd, hd2⟩
              · have hjm : j = m := by omega
                subst hjm
                clear hd
                go_wp2_with fail
                refine HT.out.mono ?_
                rintro e w6 ⟨v6, rfl, ho6, hp6, hu6⟩
                obtain ⟨A6, c6, rfl, _⟩ := ho6.rd.form
                have HR6 := hid_ ((HL w6).out hp6 hu6)
                clear ho6 hp6 hu6 HT HL
                go_wp2_with fail
                go_roundg (ops.length + 1 - (k + 1))
                case measure => have := Hg.out; omega
                case rel => exact ⟨k + 1, rfl, by omega, by omega, by go_num, HR6.out⟩
              · omega
            · have e1 : ¬ s.free < K := by omega
              have he0 : s.takeE tX K = 0 := by rw [takeE_X Has.out, if_neg e1]
              rw [if_neg e1] at HT
              have e2 : s.takeL tX K = W.map (fun (x : Nat) => (x : Int)) := by
                unfold Pl.takeL
                rw [if_pos he0, HW.out]
                unfold Pl.takeIx tk
                rw [Hlen.out, Int.toNat_natCast]
              have e3 : (s.takeS tX K).pages = putAt tX s.pages W := by
                unfold Pl.takeS
                rw [if_pos he0, HW.out]
                show putAt tX s.pages (s.takeIx K) = _
                unfold Pl.takeIx tk
                rw [Hlen.out, Int.toNat_natCast]
              have e3a : (s.takeS tX K).aside = 0 := by
                unfold Pl.takeS
                rw [if_pos he0]
                exact Has.out
              have e5 : (∀ p ∈ (s.takeS tX K).pages, p.own ≠ 0 → p.tag = tX) := by
                have := tagX_take Htag.out (K : Int)
                unfold Pl.takeS
                rw [if_pos he0]
                exact this
              have hok' := Hok.out.take (by decide) tX (K : Int)
              have hlen' : (s.takeS tX K).pages.length = m := by rw [Pl.len_takeS]; exact Hlen.out
              rw [e2] at HT
              have hmK3 : mm = K := by have := HmW.out; omega
              have hWK : W.length = K := by omega
              have HL : ∀ W', Hid (PoolAt W' b bq (s.takeS tX K) → UB W' ub (putAt tX s.pages W) → Upd (s3 b bq ub) w2 W' → LeastR b bq ub w2 m W') := fun W' hp' hub' hu' =>
                ⟨⟨_, hp', hok', hlen', e3a, e5, by rw [e3]; exact hub'⟩, hu'⟩
              have HWK := hid_ hWK
              clear e1 e2 e3 hf hWl hfK hWsz he0 e3a e5 hok' hlen' HmW hWK
              subst hmK3
              have Hv6 : ∀ {W' : World} {v : Value}, Hid (OwnI W' wr.heap.size v (W.map (fun (x : Nat) => (x : Int))) → ∃ A6 c6, v = .slice A6 mm c6) := by
                intro W' v h
                obtain ⟨A6, c6, h1, _⟩ := h.rd.form
                rw [List.length_map, HWK.out] at h1
                exact ⟨A6, c6, h1⟩
              have hd3 : j = m ∨ j < m := by omega
              clear hd
              have Hmemb : Hid (∀ (i x : Nat), W[i]? = some x → (putAt tX s.pages (W.take i)).length = s.pages.length ∧ x < s.pages.length ∧ putAt tX s.pages (W.take (i + 1)) = (putAt tX s.pages (W.take i)).set x (Pg.one tX)) := by
                intro i x hx
                refine ⟨putAt_length _ _ _, by rw [Hlen.out]; exact HWlt.out i x hx, ?_⟩
                rw [List.take_add_one, hx, ← putAt_snoc]
                rfl
              rcases hd3 with hd3 | hd3
              · subst hd3
                go_wp2_with fail
                refine HT.out.mono ?_
                rintro e w6 ⟨v6, rfl, ho6, hp6, hu6⟩
                obtain ⟨A6, c6, rfl⟩ := Hv6.out ho6
                have Ho6 := hid_ ho6
                have Hp6 := hid_ hp6
                have Hub6 : Hid (UB w6 ub s.pages) := Blk.upd (w := wr) Hus2.out hu6 (by rintro (h | h); exact Hne.out h; exact Hnq.out h)
                have hz6 : wq.heap.size ≤ wr.heap.size := Hux.out.size
                have Hwant : Hid (OwnI w6 wq.heap.size (.slice A' mm c') (W.map (fun (x : Nat) => (x : Int)))) := by
                  have := own_upd Hown.out hu6 (by rintro g (rfl | rfl) hg _ <;> omega)
                  show World.ownsRow _ _ _ _ _ _ _
                  rw [← natVals_ints, List.length_map, HWK.out]
                  exact this
                have Hu6 := hid_ (hu2.out.trans (hu6.mono (fun _ _ h => h.elim .inl (fun h => .inr (.inl h)))))
                clear ho6 hp6 hu6 HT Hv6 Hown Hux Hus Hus2 hu2 HWlt
                go_wp2_with fail
                go_loopw [14] (fun jv wx => ∃ i : Nat, i ≤ mm ∧ jv = .int .i64 i ∧ UB wx ub (putAt tX s.pages (W.take i)) ∧ Upd (fun q => q = ub) w6 wx) (fun jv _ => mm - (intOf jv).toNat)
                case atStart => exact ⟨0, Nat.zero_le _, rfl, Hub6.out, Upd.refl _ _⟩
                case round =>
                  obtain ⟨i, hi, rfl, hub7, hu7⟩ := hrel
                  have Hub7 := hid_ hub7
                  have Hu7 := hid_ hu7
                  clear hub7 hu7
                  by_cases hil : i < mm
                  · have hWi : i < W.length := by have := HWK.out; omega
                    have hx : W[i]? = some W[i] := List.getElem?_eq_getElem hWi
                    obtain ⟨l1, l2, l3⟩ := Hmemb.out i _ hx
                    obtain ⟨Ag, cg, hg, _, _, hgall⟩ := (show OwnI wr _ _ _ from own_upd Ho6.out Hu7.out (by rintro g rfl hg _ <;> omega)).rd.form
                    obtain ⟨Aw, cw, hw', _, _, hwall⟩ := (show OwnI wr _ _ _ from own_upd Hwant.out Hu7.out (by rintro g rfl hg _ <;> omega)).rd.form
                    injection hg with hg1 hgn hg2
                    injection hw' with hw1 hwn hw2
                    subst hg1 hg2 hw1 hw2
                    clear hgn hwn
                    obtain ⟨bg, og, rfl, _, _, hgc⟩ := hgall i (by rw [List.length_map]; exact hWi)
                    obtain ⟨bw, ow, rfl, _, _, hwc⟩ := hwall i (by rw [List.length_map]; exact hWi)
                    have hgd : (W.map (fun (x : Nat) => (x : Int))).getD i 0 = ((W[i] : Nat) : Int) := by
                      rw [List.getD_eq_getElem?_getD, List.getElem?_map, hx]; rfl
                    rw [hgd] at hgc hwc
                    generalize W[i] = x at *
                    obtain ⟨pg, hpx⟩ : ∃ pg, (putAt tX s.pages (W.take i))[x]? = some pg := ⟨_, List.getElem?_eq_getElem (by rw [l1]; exact l2)⟩
                    have cux := UB.cell Hub7.out hpx
                    generalize (pg.own != 0) = bo at cux
                    have fux := Blk.frozen Hub7.out x
                    have hxl : x < j := by have := Hlen.out; omega
                    have HS7 : Hid (∀ nd, LeastUB wr ub x nd (putAt tX s.pages (W.take (i + 1)))) := by
                      intro nd
                      show UB _ _ _
                      rw [l3]
                      exact UB.set (w := wr.drewN nd) Hub7.out x (Pg.one tX) true rfl
                    clear hx hWi l1 l2 l3 hgd hpx hgall hwall
                    go_wp2_with fail
                    go_quiet (fail)
                    go_wp2_with fail
                    go_roundw
                    case rel => exact ⟨i + 1, by omega, by go_num, HS7.out _, (Hu7.out.drewN _).setCell (.inl rfl) _⟩
                    case measure => simp [intOf]; omega
                  · have hie : i = mm := by omega
                    have HR6 : Hid (LeastR b bq ub w2 j wr) := by
                      refine (HL wr).out (Hp6.out.upd Hu7.out (fun h => Hne.out h.symm) (fun h => Hnq.out h.symm)) ?_ (Hu6.out.trans (Hu7.out.mono (fun _ _ h => .inr (.inr h))))
                      have := Hub7.out
                      rw [List.take_of_length_le (by have := HWK.out; omega)] at this
                      exact this
                    clear HL Hub7 Hu7 Ho6 Hp6 Hub6 Hwant Hu6
                    go_wp2_with fail
                    go_roundg (ops.length + 1 - (k + 1))
                    case measure => have := Hg.out; omega
                    case rel => exact ⟨k + 1, rfl, by omega, by omega, by go_num, HR6.out⟩
              · go_wp2_with fail
                refine HT.out.mono ?_
                rintro e w6 ⟨v6, rfl, ho6, hp6, hu6⟩
                obtain ⟨A6, c6, rfl⟩ := Hv6.out ho6
                have Ho6 := hid_ ho6
                have Hp6 := hid_ hp6
                have Hub6 : Hid (UB w6 ub s.pages) := Blk.upd (w := wr) Hus2.out hu6 (by rintro (h | h); exact Hne.out h; exact Hnq.out h)
                have hz6 : wq.heap.size ≤ wr.heap.size := Hux.out.size
                have Hwant : Hid (OwnI w6 wq.heap.size (.slice A' mm c') (W.map (fun (x : Nat) => (x : Int)))) := by
                  have := own_upd Hown.out hu6 (by rintro g (rfl | rfl) hg _ <;> omega)
                  show World.ownsRow _ _ _ _ _ _ _
                  rw [← natVals_ints, List.length_map, HWK.out]
                  exact this
                have Hu6 := hid_ (hu2.out.trans (hu6.mono (fun _ _ h => h.elim .inl (fun h => .inr (.inl h)))))
                clear ho6 hp6 hu6 HT Hv6 Hown Hux Hus Hus2 hu2 HWlt
                go_wp2_with fail
                go_loopw [14] (fun jv wx => ∃ i : Nat, i ≤ mm ∧ jv = .int .i64 i ∧ UB wx ub (putAt tX s.pages (W.take i)) ∧ Upd (fun q => q = ub) w6 wx) (fun jv _ => mm - (intOf jv).toNat)
                case atStart => exact ⟨0, Nat.zero_le _, rfl, Hub6.out, Upd.refl _ _⟩
                case round =>
                  obtain ⟨i, hi, rfl, hub7, hu7⟩ := hrel
                  have Hub7 := hid_ hub7
                  have Hu7 := hid_ hu7
                  clear hub7 hu7
                  by_cases hil : i < mm
                  · have hWi : i < W.length := by have := HWK.out; omega
                    have hx : W[i]? = some W[i] := List.getElem?_eq_getElem hWi
                    obtain ⟨l1, l2, l3⟩ := Hmemb.out i _ hx
                    obtain ⟨Ag, cg, hg, _, _, hgall⟩ := (show OwnI wr _ _ _ from own_upd Ho6.out Hu7.out (by rintro g rfl hg _ <;> omega)).rd.form
                    obtain ⟨Aw, cw, hw', _, _, hwall⟩ := (show OwnI wr _ _ _ from own_upd Hwant.out Hu7.out (by rintro g rfl hg _ <;> omega)).rd.form
                    injection hg with hg1 hgn hg2
                    injection hw' with hw1 hwn hw2
                    subst hg1 hg2 hw1 hw2
                    clear hgn hwn
                    obtain ⟨bg, og, rfl, _, _, hgc⟩ := hgall i (by rw [List.length_map]; exact hWi)
                    obtain ⟨bw, ow, rfl, _, _, hwc⟩ := hwall i (by rw [List.length_map]; exact hWi)
                    have hgd : (W.map (fun (x : Nat) => (x : Int))).getD i 0 = ((W[i] : Nat) : Int) := by
                      rw [List.getD_eq_getElem?_getD, List.getElem?_map, hx]; rfl
                    rw [hgd] at hgc hwc
                    generalize W[i] = x at *
                    obtain ⟨pg, hpx⟩ : ∃ pg, (putAt tX s.pages (W.take i))[x]? = some pg := ⟨_, List.getElem?_eq_getElem (by rw [l1]; exact l2)⟩
                    have cux := UB.cell Hub7.out hpx
                    generalize (pg.own != 0) = bo at cux
                    have fux := Blk.frozen Hub7.out x
                    have hxl : x < m := by have := Hlen.out; omega
                    have HS7 : Hid (∀ nd, LeastUB wr ub x nd (putAt tX s.pages (W.take (i + 1)))) := by
                      intro nd
                      show UB _ _ _
                      rw [l3]
                      exact UB.set (w := wr.drewN nd) Hub7.out x (Pg.one tX) true rfl
                    clear hx hWi l1 l2 l3 hgd hpx hgall hwall
                    go_wp2_with fail
                    go_quiet (fail)
                    go_wp2_with fail
                    go_roundw
                    case rel => exact ⟨i + 1, by omega, by go_num, HS7.out _, (Hu7.out.drewN _).setCell (.inl rfl) _⟩
                    case measure => simp [intOf]; omega
                  · have hie : i = mm := by omega
                    have HR6 : Hid (LeastR b bq ub w2 m wr) := by
                      refine (HL wr).out (Hp6.out.upd Hu7.out (fun h => Hne.out h.symm) (fun h => Hnq.out h.symm)) ?_ (Hu6.out.trans (Hu7.out.mono (fun _ _ h => .inr (.inr h))))
                      have := Hub7.out
                      rw [List.take_of_length_le (by have := HWK.out; omega)] at this
                      exact this
                    clear HL Hub7 Hu7 Ho6 Hp6 Hub6 Hwant Hu6
                    go_wp2_with fail
                    go_roundg (ops.length + 1 - (k + 1))
                    case measure => have := Hg.out; omega
                    case rel => exact ⟨k + 1, rfl, by omega, by omega, by go_num, HR6.out⟩
    · have HC := hid_ (count_any hp hok.len tY)
      rw [count_tY Htag.out] at HC
      have HB2 := hid_ (HB.out.trans (Hu.out.toBelow HB.out.size (fun k hk => by rcases hk with rfl | rfl | rfl <;> omega)))
      clear hp hok hus Hcell Hr Hu Htag Has Hlen
      rcases (by omega : k = ops.length ∨ (k < ops.length ∧ k = 60)) with hx | ⟨hx, hy⟩
      · subst hx
        clear hlt
        go_wp2_with fail
        refine HC.out.mono ?_
        rintro e w3 ⟨rfl, rfl⟩
        go_wp2_with fail
        go_ret
        exact ⟨rfl, HB2.out⟩
      · subst hy
        clear hlt
        go_wp2_with fail
        refine HC.out.mono ?_
        rintro e w3 ⟨rfl, rfl⟩
        go_wp2_with fail
        go_ret
        exact ⟨rfl, HB2.out⟩

set_option maxRecDepth 100000 in
open Go.ChangeShapes Go.WideShapes Go.ChangeAt in
theorem poolLeast_args {H : Type} {enc : TypeId × Value → H} {W : World} {base : Nat} {v0 v1 : Value} {d0 d1 : DataW H} {p0 p1 : List MemPlace} {tv : List TypeId} {gs : List (DataW H)}
    (h0 : DataW.Trod enc Try.prog W 0 (fun _ => true) true 3 v0 d0 p0) (k0 : Value.okWide Try.prog W .any base 3 v0)
    (h1 : DataW.Trod enc Try.prog W 0 (fun _ => true) true 22 v1 d1 p1) (k1 : Value.okWide Try.prog W .any base 22 v1)
    (_hsz : (DataW.weightsEach Try.prog ([3, 22] ++ tv) ([d0, d1] ++ gs)).all (· ≤ reachBytes) = true) :
    Calls Try.prog 3 #[v0, v1] W (TruePost W) := by
  obtain ⟨a0, rfl, rfl, rfl, _⟩ := open_int Try.underlying3 k0 h0
  obtain ⟨ops, ho⟩ := ops_open h1 k1
  exact poolLeast_walk a0 v1 ops W ho
end Go.Proofs.Ytelmolblcnolnaa
