/- PagedShared walked: it returns true. Conditions: none beyond the reading of the argument. -/
import Derived.Test.YtelmolblcnolnaaSharedLaw
import Derived.Test.YtelmolblcnolnaaTwiceW
import Derived.Deep.DeepCutAuto
import Derived.Deep.LoopGhost
import Derived.Deep.CutBlock
import Derived.Deep.RegionHeld3
namespace Go.Proofs.Ytelmolblcnolnaa
open Go.RowKit

theorem ok_sharesTo {s : Pl} {L : List Int} : ∀ (k : Nat) {c : Int}, s.Ok c → (sharesTo s L k).Ok (c + k)
  | 0, c, h => by rw [show c + ((0 : Nat) : Int) = c by omega]; exact h
  | k + 1, c, h => by
    rw [show c + ((k + 1 : Nat) : Int) = (c + (k : Int)) + 1 by omega]
    exact (ok_sharesTo k h).share _
theorem cell_below_ {w w' : World} {p : Addr} {v : Value} (h : w.cell? p = some v) (hb : Below w.heap.size w w') : w'.cell? p = some v := ((Upd.of_below (S := fun _ => False) hb).cell (World.block_lt_of_cell? w p h) (fun h => h)).trans h
/-- a pool, a row of its pages, an argument: what is kept from w2 on -/
structure PSt (w w2 W : World) (b bq : Nat) (s : Pl) (v : Value) (L : List Int) (u : Value) (xs : List Int) : Prop where
  p : PoolAt W b bq s
  o : OwnI W w2.heap.size v L
  x : RdI W w.heap.size .i8 u xs
  up : Upd (pS b bq) w2 W
theorem PSt.pool {w w2 W W' : World} {b bq : Nat} {s s' : Pl} {v u : Value} {L xs : List Int} (h : PSt w w2 W b bq s v L u xs) (hp : PoolAt W' b bq s') (hu : Upd (pS b bq) W W') (hb : b < w2.heap.size) (hq : bq < w2.heap.size) (hwb : w.heap.size ≤ b) (hwq : w.heap.size ≤ bq) : PSt w w2 W' b bq s' v L u xs :=
  ⟨hp, h.o.keep hu hb hq, h.x.upd hu (fun j hj => by rcases hj with rfl | rfl <;> assumption), h.up.trans hu⟩
theorem PSt.quiet {w w2 W W' : World} {b bq : Nat} {s : Pl} {v u : Value} {L xs : List Int} (h : PSt w w2 W b bq s v L u xs) (hu : Upd (fun _ => False) W W') : PSt w w2 W' b bq s v L u xs :=
  ⟨PoolMem.upd h.p hu (fun h => h) (fun h => h), h.o.keep0 hu, h.x.upd hu (fun _ h => h.elim), h.up.trans (hu.mono (fun _ _ h => h.elim))⟩
theorem i8_wf {x : Int} (h : (Lit.int .i8 x).wf = true) : -128 ≤ x ∧ x ≤ 127 := by
  have e1 : IntKind.i8.min = -128 := by decide
  have e2 : IntKind.i8.max = 127 := by decide
  simp [Lit.wf] at h
  omega
theorem same8_true {w : World} {v u : Value} {xs : List Int} {B B' : Nat} (hx : RdI w B .i8 v xs) (hy : RdI w B' .i8 u xs) :
    Calls Try.prog 36 #[v, u] w fun e w' => e = .returned (.bool true) ∧ Upd (fun _ => False) w w' := by
  refine (same08_any hx hy).mono ?_
  rintro e w' ⟨rfl, n, rfl⟩
  exact ⟨by rw [decide_eq_true rfl], (Upd.refl _ _).drewN n⟩
theorem gro_out {w0 W : World} {v : Value} {xs ys : List Int} {n : Nat} (h : Gro w0 W v xs) (hx : xs = ys) (hn : ys.length = n) : ∃ A c, v = .slice A n c ∧ RdI W W.heap.size .i64 (.slice A n c) ys ∧ (∀ b' o, A = some ⟨b', o, none⟩ → 0 < n → w0.heap.size ≤ b') ∧ Below w0.heap.size w0 W := by
  subst hx hn
  obtain ⟨⟨b, h1, h2, h3⟩, h4⟩ := h
  obtain ⟨A, c, rfl⟩ := own_slice_ h3
  refine ⟨A, c, rfl, Rd.of_own h3, fun b' o hA h0 => ?_, h4⟩
  obtain ⟨g, rfl, hg⟩ := own_form h3 h0
  injection hA with hA
  injection hA with hA _ _
  omega
set_option maxHeartbeats 4000000 in
set_option maxRecDepth 100000 in
theorem pagedShared_walk {w : World} {B : Nat} {A : Option Addr} {n c : Nat} {xs : List Int} (hx : RdI w B .i8 (.slice A n c) xs) (hBw : B ≤ w.heap.size) (h8 : ∀ v ∈ xs, -128 ≤ v ∧ v ≤ 127) :
    Calls Try.prog 9 #[.slice A n c] w (TruePost w) := by
  have hn := (rdi_len hx).1
  have HX := hid_ hx
  by_cases h0 : n = 0
  · subst h0
    go_enter Try.func9, Try.ntmps9
    go_wp2_with fail
    refine (works12 _).mono ?_
    rintro e w1 ⟨rfl, hB⟩
    go_wp2_with fail
    go_ret
    exact ⟨rfl, hB⟩
  by_cases h1 : 1000 < n
  · have g0 : ¬ (n : Int) = 0 := by omega
    have g1 : (1000 : Int) < n := by omega
    go_enter Try.func9, Try.ntmps9
    go_wp2_with fail
    refine (works12 _).mono ?_
    rintro e w1 ⟨rfl, hB⟩
    go_wp2_with fail
    go_ret
    exact ⟨rfl, hB⟩
  have g0 : ((n : Int) == 0) = false := beq_eq_false_iff_ne.2 (by omega)
  have g1 : ¬ (1000 : Int) < n := by omega
  have hn1 : 0 < n := by omega
  have HN := hid_ hn
  have HP8 := hid_ h8
  obtain ⟨L, s2, s3, s4, s5, SL⟩ := shared_law xs (by omega) (by omega) h8
  have HSL := hid_ SL
  have HXW := hid_ (hx.more (B' := w.heap.size) hBw)
  clear SL hx h8 hn
  go_enter Try.func9, Try.ntmps9
  go_wp2_with fail
  refine (works12 _).mono ?_
  rintro e w1 ⟨rfl, hB⟩
  have HB1 := hid_ hB
  clear hB
  go_wp2_with fail
  refine (new_any 40 _ (by decide)).mono ?_
  rintro e w2 ⟨b, bq, rfl, hp, hB, hb, hq⟩
  have hb1 : b < w2.heap.size := hp.hb.lt
  have hq1 : bq < w2.heap.size := Blk.ex_lt hp.tq
  have HB2 := hid_ (HB1.out.trans (hB.mono HB1.out.size))
  have hwb : w.heap.size ≤ b := Nat.le_trans HB1.out.size hb
  have hwq : w.heap.size ≤ bq := Nat.le_trans HB1.out.size hq
  have HX2 := hid_ ((rdi_below HX.out HB2.out).more (B' := w2.heap.size) (Nat.le_trans hBw HB2.out.size))
  have hnp : ∀ b' o, A = some ⟨b', o, none⟩ → 0 < n → ¬ pS b bq b' := by
    intro b' o hA hn0 hp9
    obtain ⟨b9, o9, h9, hc9⟩ := rdi_cell HX.out (j := 0) (by rw [HN.out]; exact hn0)
    rw [hA] at h9
    injection h9 with h9
    injection h9 with h9 _ _
    have := World.block_lt_of_cell? _ _ hc9
    subst h9
    have h7 := HB1.out.size
    rcases hp9 with rfl | rfl
    · simp at this; omega
    · simp at this; omega
  have H1 := hid_ (place_any hp (Pl.ok_new (by decide) (by decide) : Pl.Ok 1 (Pl.new 40)) tM HX2.out HP8.out hnp)
  have HNP := hid_ hnp
  clear hB hp hnp HX HB1
  go_wp2_with fail
  refine H1.out.mono ?_
  clear H1
  rintro e w3 ⟨v, rfl, ho, hp, hu⟩
  rw [HSL.out.e0, HSL.out.eL] at hp
  rw [HSL.out.eL] at ho
  rw [HSL.out.e0]
  rw [if_pos rfl, HSL.out.e2] at hp
  obtain ⟨m, hm⟩ : ∃ m, L.length = m := ⟨_, rfl⟩
  have hm1 : 0 < m := by have := HSL.out.len; have := HN.out; omega
  have hm2 : m ≤ 32 := by have := HSL.out.len; have := HN.out; omega
  obtain ⟨A3, c3, rfl⟩ := own_slice_ ho
  obtain ⟨gb, hA3, hgb⟩ := own_form ho (by omega)
  subst hA3
  rw [hm] at ho ⊢
  have HM := hid_ hm
  have HO := hid_ ho
  have HP := hid_ hp
  have HU := hid_ hu
  clear ho hp hu hm
  have hm3 : (0 : Int) < m := by omega
  have gm : ((m : Int) == 0) = false := beq_eq_false_iff_ne.2 (by omega)
  have HRD := hid_ HO.out.rd
  have hgp : ¬ pS b bq gb := by rintro (rfl | rfl) <;> omega
  have HGP := hid_ hgp
  clear hgp
  go_wp2_with fail
  go_loopw [7] (fun iv wr => ∃ k : Nat, k ≤ m ∧ iv = .int .i64 k ∧ Hid (PoolAt wr b bq (sharesTo s2 L k)) ∧ Hid (Upd (pS b bq) w3 wr)) (fun iv _ => m - (intOf iv).toNat)
  case atStart => exact ⟨0, Nat.zero_le _, rfl, HP, hid_ (Upd.refl _ _)⟩
  case round =>
    obtain ⟨k, hkm, rfl, HPk, HUk⟩ := hrel
    by_cases hlt : k < m
    · have hlt' : (k : Int) < (m : Int) := by omega
      obtain ⟨b9, o9, h9, d0⟩ := rdi_cell HRD.out (j := k) (by rw [HM.out]; exact hlt)
      have d2 : wr.cell? ⟨gb, k, none⟩ = some (.int .i64 (L.getD k 0)) := by
        injection h9 with h9
        injection h9 with h9 h9' _
        subst h9 h9'
        rw [Nat.zero_add] at d0
        exact (HUk.out.cell (World.block_lt_of_cell? _ _ d0) HGP.out).trans d0
      have HS := hid_ (share_any HPk.out (ok_sharesTo (L := L) k HSL.out.ok2) (by omega) (L.getD k 0))
      have HE : Hid (sharesTo s2 L (k + 1) = (sharesTo s2 L k).shareS (L.getD k 0)) := rfl
      generalize L.getD k 0 = x at *
      clear d0 h9
      go_wp2_with ((go_at_call 22); (refine HS.out.mono ?_); (rintro e w9 ⟨rfl, hp3, hu3⟩); (have HP9 : Hid (PoolAt w9 b bq (sharesTo s2 L (k + 1))) := by (rw [HE.out]; exact hp3)); (have HU9 := hid_ (HUk.out.trans hu3)); (clear hp3 hu3))
      go_roundw
      case rel => exact ⟨k + 1, by omega, by go_num, HP9, HU9⟩
      case measure => simp [intOf]; omega
    · obtain rfl : k = m := by omega
      have hp4 := HPk.out
      rw [show sharesTo s2 L k = s3 from (by rw [← HSL.out.e3, HM.out])] at hp4
      have HP4 := hid_ hp4
      have HO4 := hid_ (HO.out.keep HUk.out hb1 hq1)
      have HU4 := hid_ (HU.out.trans HUk.out)
      clear hp4 hlt hkm HPk HUk HRD HO HU HP
      obtain ⟨x0, hx0⟩ : ∃ x0, L.getD 0 0 = x0 := ⟨_, rfl⟩
      have HX0 := hid_ hx0
      clear hx0
      obtain ⟨wo, hwo⟩ : ∃ wo : World, wo = wr := ⟨_, rfl⟩
      rw [← hwo] at HP4 HO4 HU4 ⊢
      clear hwo
      go_upto_region 13 with fail
      go_cut [8] (fun v8 wx => ∃ A8 c8, v8 = .slice A8 (k + k + 1) c8 ∧ Hid (RdI wx wx.heap.size .i64 (.slice A8 (k + k + 1) c8) (L ++ L ++ [x0])) ∧ Hid (∀ b' o, A8 = some ⟨b', o, none⟩ → 0 < k + k + 1 → ¬ pS b bq b') ∧ Hid (Below wo.heap.size wo wx))
      case first =>
        have hd4 := HO4.out.rd
        obtain ⟨b9, o9, h9, d0⟩ := rdi_cell hd4 (j := 0) (by rw [HM.out]; exact hm1)
        have t9 : wo.cell? ⟨gb, 0, none⟩ = some (.int .i64 x0) := by
          injection h9 with h9
          injection h9 with h9 h9' _
          subst h9 h9'
          rw [HX0.out] at d0
          exact d0
        have hgl := World.block_lt_of_cell? _ _ t9
        have HD4 := hid_ hd4
        clear h9 d0 hd4
        have G1 := hid_ (Gro.new wo).drew
        have G2 := hid_ ((Gro.new wo).alloc (.cells #[.int .i64 x0] 3)).drew
        have N2 : Hid (One wo ((wo.alloc (.cells #[] 3)).alloc (.cells #[.int .i64 x0] 3)).drew (.slice (some ⟨wo.heap.size + 1, 0, none⟩) 1 1) x0 (.slice (some ⟨wo.heap.size, 0, none⟩) 0 0)) := by
          have h := (One.new (Gro.new wo) x0).drew
          rw [World.size_alloc] at h
          exact h
        have G3 := hid_ (Gro.new2 wo (.cells #[.int .i64 x0] 3)).drew
        have N3 := hid_ (One.first wo x0).drew
        have HL : Hid (L.length = k ∧ k ≤ 32) := ⟨HM.out, hm2⟩
        go_region_held3 (fun w' => w'.cell? ⟨gb, 0, none⟩ = some (.int .i64 x0)) (go_keep) ((first
          | (refine step_gro rfl (.tmp 58) (.tmp 59) rfl _ [] rfl G1.out _ _ _ _ L rfl (rdi_below HD4.out G1.out.bel) (by have := HL.out; simp; omega) ?_; intro v5 w5 hg5 ho5; have HG5 := hid_ hg5; have t5 := cell_below_ t9 hg5.bel; clear hg5 ho5)
          | (refine step_gro rfl (.tmp 58) (.tmp 59) rfl _ [] rfl G2.out _ _ _ _ L rfl (rdi_below HD4.out G2.out.bel) (by have := HL.out; simp; omega) ?_; intro v5 w5 hg5 ho5; have HG5 := hid_ hg5; have HN5 := hid_ (ho5 _ _ N2.out); have t5 := cell_below_ t9 hg5.bel; clear hg5 ho5)
          | (refine step_gro rfl (.tmp 58) (.tmp 59) rfl _ [] rfl G3.out _ _ _ _ L rfl (rdi_below HD4.out G3.out.bel) (by have := HL.out; simp; omega) ?_; intro v5 w5 hg5 ho5; have HG5 := hid_ hg5; have HN5 := hid_ (ho5 _ _ N3.out); have t5 := cell_below_ t9 hg5.bel; clear hg5 ho5)
          | (refine step_gro rfl (.tmp 60) (.tmp 61) rfl _ ([] ++ L) rfl HG5.out _ _ _ _ L rfl (rdi_below HD4.out HG5.out.bel) (by have := HL.out; simp; omega) ?_; intro v6 w6 hg6 ho6; have HG6 := hid_ hg6; have HN6 := hid_ (ho6 _ _ HN5.out); have t6 := cell_below_ t9 hg6.bel; clear hg6 ho6)
          | (refine step_gro rfl (.tmp 60) (.tmp 61) rfl _ ([] ++ L) rfl HG5.out _ _ _ _ L rfl (rdi_below HD4.out HG5.out.bel) (by have := HL.out; simp; omega) ?_; intro v6 w6 hg6 ho6; have HG6 := hid_ hg6; have t6 := cell_below_ t9 hg6.bel; clear hg6 ho6)
          | (have hgx := HG5.out.alloc (.cells #[.int .i64 x0] 3); refine step_gro rfl (.tmp 60) (.tmp 61) rfl _ ([] ++ L) rfl hgx _ _ _ _ L rfl (rdi_below HD4.out hgx.bel) (by have := HL.out; simp; omega) ?_; intro v6 w6 hg6 ho6; have HG6 := hid_ hg6; have HN6 := hid_ (ho6 _ _ (One.new HG5.out x0)); have t6 := cell_below_ t9 hg6.bel; clear hg6 ho6 hgx)
          | (obtain ⟨k9, h9, _⟩ := HN6.out; injection h9 with h9 _ _; injection h9 with h9; injection h9 with h9 _ _; subst h9; refine step_gro rfl (.tmp 62) (.tmp 66) rfl _ ([] ++ L ++ L) rfl HG6.out _ _ _ _ [x0] rfl HN6.out.rd.1 (by have := HL.out; simp; omega) ?_; intro v7 w7 hg7 ho7; have HG7 := hid_ hg7; have t7 := cell_below_ t9 hg7.bel; clear hg7 ho7)
          | (have hgx := HG6.out.alloc (.cells #[.int .i64 x0] 3); refine step_gro rfl (.tmp 62) (.tmp 66) rfl _ ([] ++ L ++ L) rfl hgx _ _ _ _ [x0] rfl (One.new HG6.out x0).rd.1 (by have := HL.out; simp; omega) ?_; intro v7 w7 hg7 ho7; have HG7 := hid_ hg7; have t7 := cell_below_ t9 hg7.bel; clear hg7 ho7 hgx)))
        all_goals
          obtain ⟨A8, c8, rfl, hr8, hp8, hb8⟩ := gro_out HG7.out (ys := L ++ L ++ [x0]) (n := k + k + 1) (by simp) (by have := HM.out; simp; omega)
          have HR8 := hid_ hr8
          have HB8 := hid_ hb8
          have HQ8 : Hid (∀ b' o, A8 = some ⟨b', o, none⟩ → 0 < k + k + 1 → ¬ pS b bq b') := by
            intro b' o hA h0 hp
            have h1 := hp8 b' o hA h0
            have h2 := HB2.out.size
            have h3 := HU4.out.size
            rcases hp with rfl | rfl <;> omega
          clear hr8 hb8 hp8
          (try go_wp2_with fail)
          go_meet
          exact ⟨_, _, rfl, HR8, HQ8, HB8⟩
      case rest =>
        obtain ⟨A8, c8, rfl, HR8, HQ8, HB8⟩ := hcut
        have hx4 : RdI wo w.heap.size .i8 (.slice A n c) xs := (HXW.out.upd (Upd.of_below (S := fun _ => False) HB2.out) (fun _ h => h.elim)).upd HU4.out (fun j hj => by rcases hj with rfl | rfl <;> assumption)
        have HS5 := hid_ (PSt.quiet (⟨HP4.out, HO4.out, hx4, HU4.out⟩ : PSt w w2 wo b bq s3 _ L _ xs) (Upd.of_below (S := fun _ => False) HB8.out))
        clear hx4 HP4 HO4 HU4 HB8
        have hok3 : s3.Ok (1 + (k : Int)) := by rw [← HSL.out.e3, ← HM.out]; exact ok_sharesTo _ HSL.out.ok2
        have hI2 : ∀ x ∈ L ++ L ++ [x0], InI x := by
          intro x hx
          rw [← HX0.out] at hx
          simp only [List.mem_append, List.mem_singleton] at hx
          rcases hx with (h | h) | h
          · exact HSL.out.inI x h
          · exact HSL.out.inI x h
          · subst h; exact HSL.out.inI _ (getD_mem_ (by rw [HM.out]; exact hm1))
        have HLP : Hid (∀ b' o, (some ⟨gb, 0, none⟩ : Option Addr) = some ⟨b', o, none⟩ → 0 < k → ¬ pS b bq b') := by
          intro b' o hA _
          injection hA with hA
          injection hA with hA _ _
          subst hA
          exact HGP.out
        have K1 := hid_ (release_any HS5.out.p hok3 (by omega) (by omega) HR8.out (by omega) hI2 HQ8.out)
        rw [show relE s3 (L ++ L ++ [x0]) = 25 from (by rw [← HX0.out]; exact HSL.out.twice), relS_stop (show relE s3 (L ++ L ++ [x0]) = 25 from (by rw [← HX0.out]; exact HSL.out.twice))] at K1
        have HOK3 := hid_ hok3
        have HI3 : Hid (∀ x ∈ L, InI x) := HSL.out.inI
        have HOK4 : Hid (s4.Ok (1 + (k : Int))) := by rw [← HSL.out.e4]; exact ok_relS hok3 (by omega) _
        have HOK5 : Hid (s5.Ok (1 + (k : Int))) := by rw [← HSL.out.e5]; exact ok_relS HOK4.out (by omega) _
        have HNK : Hid ((n + 31) / 32 ≤ k) := by rw [← HN.out, ← HSL.out.len, HM.out]; exact Nat.le_refl _
        have HG : Hid (fetchE s4 L n = 0 ∧ (List.range n).map (gotV s4 L) = xs ∧ fetchE s5 L n = 25) := by rw [← HN.out]; exact ⟨HSL.out.got, HSL.out.row, HSL.out.none⟩
        clear hok3 hI2
        go_wp2_with (first
          | ((go_at_call 37); (have q1 := K1.out); (refine q1.mono ?_); (rintro e w6 ⟨rfl, hp6, hu6⟩); (have HS6 := hid_ (HS5.out.pool hp6 hu6 hb1 hq1 hwb hwq)); (have K2 := hid_ (release_any HS6.out.p HOK3.out (by omega) (by omega) HS6.out.o.rd (by omega) HI3.out HLP.out)); (rw [HSL.out.once, HSL.out.e4] at K2); (clear K1 q1 hp6 hu6 HS5 HR8))
          | ((go_at_call 37); (have q1 := K2.out); (refine q1.mono ?_); (rintro e w7 ⟨rfl, hp7, hu7⟩); (have HS7 := hid_ (HS6.out.pool hp7 hu7 hb1 hq1 hwb hwq)); (have K3 := hid_ (fetch_run HS7.out.p HOK4.out.len HS7.out.o.rd (by omega) (n := n) HNK.out)); (rw [HG.out.1, HG.out.2.1] at K3); (clear K2 q1 hp7 hu7 HS6))
          | ((go_at_call 35); (have q1 := K3.out); (refine q1.mono ?_); (rintro e w8 ⟨v8, rfl, hb8, hx8, _⟩); (have HX8 := hid_ (hx8 rfl)); (have HS8 := hid_ (HS7.out.quiet (Upd.of_below hb8))); (have hz8 := HS7.out.up.size); (have K4 := hid_ (release_any HS8.out.p HOK4.out (by omega) (by omega) HS8.out.o.rd (by omega) HI3.out HLP.out)); (rw [HSL.out.again, HSL.out.e5] at K4); (clear K3 q1 hb8 hx8 HS7))
          | ((go_at_call 37); (have q1 := K4.out); (refine q1.mono ?_); (rintro e w9 ⟨rfl, hp9, hu9⟩); (have HS9 := hid_ (HS8.out.pool hp9 hu9 hb1 hq1 hwb hwq)); (have HX9 := hid_ (own_upd HX8.out hu9 (fun k hk hbk _ => by rcases hk with rfl | rfl <;> omega))); (have K5 := hid_ (fetch_run HS9.out.p HOK5.out.len HS9.out.o.rd (by omega) (n := n) HNK.out)); (rw [HG.out.2.2] at K5); (clear K4 q1 hp9 hu9 HS8 HX8))
          | ((go_at_call 35); (have q1 := K5.out); (refine q1.mono ?_); (rintro e w10 ⟨v10, rfl, hb10, _, _⟩); (have HX10 := hid_ (own_upd HX9.out (Upd.of_below (S := fun _ => False) hb10) (fun _ h => h.elim))); (have HS10 := hid_ (HS9.out.quiet (Upd.of_below hb10))); (have K6 := hid_ (sizes_any HS10.out.p)); (rw [HSL.out.free] at K6); (clear K5 q1 hb10 HS9 HX9))
          | ((go_at_call 23); (have q1 := K6.out); (refine q1.mono ?_); (rintro e w11 ⟨rfl, hd11⟩); (have HX11 := hid_ (own_upd HX10.out (upd_drewN hd11) (fun _ h => h.elim))); (have HS11 := hid_ (HS10.out.quiet (upd_drewN hd11))); (have K7 := hid_ (same8_true (Rd.of_own HX11.out) HS11.out.x)); (clear K6 q1 hd11 HS10 HX10))
          | ((go_at_call 36); (have q1 := K7.out); (refine q1.mono ?_); (rintro e w12 ⟨rfl, hu12⟩); (have HS12 := hid_ (HS11.out.quiet hu12)); (have K8 := hid_ (release_any HS12.out.p HOK5.out (by omega) (by omega) HS12.out.o.rd (by omega) HI3.out HLP.out)); (rw [HSL.out.no, relS_stop HSL.out.no] at K8); (clear K7 q1 hu12 HS11))
          | ((go_at_call 37); (have q1 := K8.out); (refine q1.mono ?_); (rintro e w13 ⟨rfl, hp13, hu13⟩); (have HS13 := hid_ (HS12.out.pool hp13 hu13 hb1 hq1 hwb hwq)); (clear K8 q1 hp13 hu13)))
        go_ret
        exact ⟨rfl, HB2.out.trans (HS13.out.up.toBelow HB2.out.size (fun j hj => by rcases hj with rfl | rfl <;> assumption))⟩
set_option maxRecDepth 100000 in
theorem pagedShared_args {H : Type} {enc : TypeId × Value → H} {W : World} {base : Nat} {v0 : Value} {d0 : DataW H} {p0 : List MemPlace} {tv : List TypeId} {gs : List (DataW H)}
    (h0 : DataW.Trod enc Try.prog W 0 (fun _ => true) true 54 v0 d0 p0) (k0 : Value.okWide Try.prog W .any base 54 v0)
    (_hsz : (DataW.weightsEach Try.prog ([54] ++ tv) ([d0] ++ gs)).all (· ≤ reachBytes) = true) :
    Calls Try.prog 9 #[v0] W (TruePost W) := by
  obtain ⟨xs, hx, _, hw, _⟩ := nums_open Try.underlying54 Try.underlying73 (by kernel_rfl) h0 k0
  obtain ⟨A, c, rfl, _⟩ := hx.form
  exact pagedShared_walk hx (Nat.le_refl _) (fun v hv => i8_wf (hw v hv))
end Go.Proofs.Ytelmolblcnolnaa
