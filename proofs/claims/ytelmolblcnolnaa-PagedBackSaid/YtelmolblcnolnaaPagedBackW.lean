/- PagedBack walked: it returns true. Conditions: none beyond the reading of the arguments. -/
import Derived.Test.YtelmolblcnolnaaBackMem
import Derived.Test.YtelmolblcnolnaaPoolKeepsW
namespace Go.Proofs.Ytelmolblcnolnaa
open Go.RowKit Go.ChangeShapes Go.WideShapes Go.ChangeAt

set_option maxHeartbeats 4000000 in
set_option maxRecDepth 100000 in
theorem pagedBack_walk {w : World} {A : Option Addr} {n c : Nat} {D : List (List Int)} (a : Int) (hD : D.length = n) (hx : RowAt w w.heap.size A D) (hn : n ≤ maxLen) :
    Calls Try.prog 7 #[.int .i64 a, .slice A n c] w (TruePost w) := by
  have u1 := u64_nonneg' a
  have HX := hid_ hx
  have HD := hid_ hD
  clear hx hD
  obtain ⟨i0, hi0, hz0, hz1, hz2⟩ := info_parts Try.infoRowI
  obtain ⟨j0, hj0, jz0, jz1, jz2⟩ := info_parts Try.infoRow8
  have hn63 : n ≤ 9223372036854775807 := by unfold maxLen at hn; omega
  clear hn
  go_enter Try.func7, Try.ntmps7
  go_wp2_with fail
  refine (works12 _).mono ?_
  rintro e w1 ⟨rfl, hB⟩
  have HB := hid_ hB
  clear hB
  have n0 : 0 ≤ IntKind.u64.wrap a % 64 ∧ IntKind.u64.wrap a % 64 < 64 := by omega
  obtain ⟨n0, n1⟩ := n0
  go_wp2_with fail
  obtain ⟨m, hm⟩ := Int.eq_ofNat_of_zero_le (show 0 ≤ 1 + IntKind.u64.wrap a % 64 by omega)
  have hm1 : 1 ≤ m := by omega
  have hm2 : m ≤ 64 := by omega
  rw [hm]
  generalize IntKind.u64.wrap a = un at *
  clear hm n0 n1 u1
  refine (new_any m _ (by unfold Pl.newE; rw [if_neg (by omega)])).mono ?_
  rintro e w2 ⟨b, bq, rfl, hp, hB, hb, hq⟩
  have hb1 : b < w2.heap.size := hp.hb.lt
  have hq1 : bq < w2.heap.size := Blk.ex_lt hp.tq
  have hwb : w.heap.size ≤ b := Nat.le_trans HB.out.size hb
  have hwq : w.heap.size ≤ bq := Nat.le_trans HB.out.size hq
  have HB := hid_ (HB.out.trans (hB.mono HB.out.size))
  have HX2 := hid_ (HX.out.upd (Upd.of_below (S := fun _ => False) HB.out) (fun _ h => h.elim))
  have HLW : Hid (BackLaw (Pl.new m) [] ∧ (Pl.new m).pages.length = m) := ⟨back_new hm1 (by omega), by rw [Pl.len_new]; exact Int.toNat_natCast m⟩
  have HBW : Hid (BackW w w2 w2 (.slice none 0 0) (.slice none 0 0) []) := ⟨World.ownsRow_nil _ _ _ _, World.ownsRow_nil _ _ _ _, fun r hr => by cases hr⟩
  have HP := hid_ hp
  clear hB hp hb hq HX
  go_wp2_with fail
  go_loopw [7, 8, 9] (fun v7 v8 iv wr => ∃ (i : Nat) (P : List Plc) (s : Pl) (A7 A8 : Option Addr) (c7 c8 : Nat), i ≤ n ∧ i ≤ 20 ∧ P.length ≤ i ∧ iv = .int .i64 i ∧ v7 = .slice A7 P.length c7 ∧ v8 = .slice A8 P.length c8 ∧
    Hid (BackW w w2 wr (.slice A7 P.length c7) (.slice A8 P.length c8) P) ∧ Hid (PoolAt wr b bq s) ∧ Hid (BackLaw s P ∧ s.pages.length = m) ∧ Hid (Upd (pS b bq) w2 wr)) (fun _ _ iv _ => n - (intOf iv).toNat)
  case atStart => exact ⟨0, [], _, none, none, 0, 0, Nat.zero_le _, Nat.zero_le _, Nat.zero_le _, rfl, rfl, rfl, HBW, HP, HLW, hid_ (Upd.refl _ _)⟩
  case round =>
    obtain ⟨i, P, s, A7, A8, c7, c8, hin, hi20, hPi, rfl, rfl, rfl, HBWi, HPi, HLWi, HUi⟩ := hrel
    by_cases hlt : i < n ∧ i < 20
    · obtain ⟨hlt, hlt2⟩ := hlt
      have hlt' : (i : Int) < (n : Int) := by omega
      have hlt2' : (i : Int) < 20 := by omega
      have HXi := hid_ (HX2.out.upd HUi.out (fun k hk => by rcases hk with rfl | rfl <;> assumption))
      obtain ⟨b0, o0, A', c', hA, d1, hb0, hr0, h80⟩ := HXi.out i (by rw [HD.out]; exact hlt)
      subst hA
      obtain ⟨xs, hxs⟩ : ∃ xs, D.getD i [] = xs := ⟨_, rfl⟩
      rw [hxs] at d1 hr0 h80
      have hws : w2.heap.size ≤ wr.heap.size := HUi.out.size
      have hww : w.heap.size ≤ w2.heap.size := HB.out.size
      have hxl := (rdi_len hr0).2.2
      have hx63 : xs.length ≤ 9223372036854775807 := by unfold maxLen at hxl; omega
      have hnp : ∀ b' o, A' = some ⟨b', o, none⟩ → 0 < xs.length → ¬ pS b bq b' := by
        intro b' o hA hn0 hp9
        obtain ⟨b9, o9, h9, hc9⟩ := rdi_cell hr0 (j := 0) hn0
        obtain ⟨A9, c9, e9, _, _, h7⟩ := hr0.form
        obtain ⟨b8, o8, h8, hb8, _⟩ := h7 0 hn0
        injection e9 with e9 _ _
        rw [← e9, hA] at h8
        injection h8 with h8
        injection h8 with h8 _ _
        rcases hp9 with rfl | rfl <;> omega
      have hfit := back_fits HLWi.out.1 xs.length
      have hf0 := Pl.free_nonneg s
      have hf1 : s.free ≤ 256 := by have h1 := Pl.free_le s; have h2 := HLWi.out.1.ok.len; omega
      have K1 := hid_ (sizes_any HPi.out)
      have KP := fun q => hid_ (place_any (HPi.out.drewN q) HLWi.out.1.ok tM (rdi_drew hr0 q) h80 hnp)
      have HR0 := hid_ hr0
      have H80 := hid_ h80
      obtain ⟨f, hf⟩ : ∃ f, s.free = f := ⟨_, rfl⟩
      rw [hf] at hfit hf0 hf1 K1
      have hw32 : wrap64 (32 * f) = 32 * f := by unfold wrap64; omega
      clear hr0 h80 hnp hxl hf
      by_cases he : s.takeE tM (needV xs.length) = 0
      · have hfit' : (xs.length : Int) ≤ 32 * f := by rw [he] at hfit; exact of_decide_eq_true hfit.symm
        have K2 : ∀ q, Hid (Calls Try.prog 34 #[.pointer (some ⟨b, 0, none⟩), .string tM, .slice A' xs.length c'] (wr.drewN q) fun e w' => ∃ v, e = .returned (.tuple #[v, .int .i64 0]) ∧ OwnI w' wr.heap.size v (s.takeL tM (needV xs.length)) ∧
            PoolAt w' b bq (putsTo (s.takeS tM (needV xs.length)) (s.takeL tM (needV xs.length)) xs xs.length) ∧ Upd (pS b bq) wr w') := fun q => by
          refine (KP q).out.mono ?_
          rintro e w' ⟨v, rfl, h1, h2, h3⟩
          rw [he] at h2 ⊢
          rw [if_pos rfl] at h2
          exact ⟨v, rfl, by simpa using h1, h2, ((Upd.refl _ wr).drewN q).trans h3⟩
        have HLW2 := fun v u => hid_ (back_place HLWi.out.1 he H80.out v u)
        have HLN := hid_ (show (putsTo (s.takeS tM (needV xs.length)) (s.takeL tM (needV xs.length)) xs xs.length).pages.length = m by rw [len_putsTo, Pl.len_takeS]; exact HLWi.out.2)
        generalize s.takeL tM (needV xs.length) = L at *
        generalize putsTo (s.takeS tM (needV xs.length)) L xs xs.length = s2 at *
        clear KP hfit he
        go_wp2_with (first
          | ((go_at_call 23); (have q1 := K1.out); (refine q1.mono ?_); (rintro e w3 ⟨rfl, q3, rfl⟩); (have K3 := K2 q3); (clear K1 q1 K2))
          | ((go_at_call 34); (have q1 := K3.out); (refine q1.mono ?_); (rintro e w4 ⟨v4, rfl, ho4, hp4, hu4⟩); (obtain ⟨A4, c4, rfl⟩ := own_slice_ ho4); (have HBW4 := hid_ (HBWi.out.pool hu4 hb1 hq1 hwb hwq)); (have HO4 := hid_ (ho4.base hws)); (have HP4 := hid_ hp4); (have HU4 := hid_ (HUi.out.trans hu4)); (have HR4 := hid_ (HR0.out.upd hu4 (fun k hk => by rcases hk with rfl | rfl <;> assumption))); (have d4 := cell_upd2 d1 hu4 (by show ¬ pS b bq b0; rintro (rfl | rfl) <;> omega)); (have hs4 := HU4.out.size); (clear K3 q1 ho4 hp4 hu4))
          | (at_builtin; refine wpList_append_own _ rfl (.tmp 78) (.tmp 80) 52 rfl w2.heap.size 33 i0 (.slice none 0 0) 1 24 Try.underlying52 hi0 hz0 hz1 hz2 rfl (by decide) _ P.length _ rfl (HBW4.out.rp.alloc _) ⟨w4.heap.size, 0, none⟩ 1 1 [.slice A4 L.length c4] rfl rfl (one_new rfl) (one_cell rfl) ?c3 ?c4 ?c5 ?_))
        case c3 => unfold maxLen; omega
        case c4 => omega
        case c5 => simp; omega
        intro v5 w5 h5 hg5 _
        obtain ⟨A5, c5, rfl⟩ := own_slice_ h5
        obtain ⟨hI5, hT5⟩ := HBW4.out.addP (r := ⟨.slice A4 L.length c4, L, .slice A' xs.length c', xs⟩) hww ⟨HO4.out, HR4.out⟩ hg5
        have hu5 := upd_own HBW4.out.rp hg5
        have d5 := cell_upd2 d4 hu5 (fun hk => by have h9 := own_ge HBW4.out.rp hk.symm; have h8 : w2.heap.size ≤ b0 := h9; omega)
        have HP5 := hid_ (pool_own HP4.out HBW4.out.rp hg5 hb1 hq1)
        have HU5 := hid_ (app_upd1 HBW4.out.rp HU4.out (Nat.le_refl _) hg5)
        have H5 := hid_ h5
        have HI5 := hid_ hI5
        have HT5 := hid_ hT5
        have hs5 := HU5.out.size
        clear h5 hg5 hI5 hT5 hu5 HBW4 HO4 HP4 HU4 HR4 d4 hs4
        go_wp2_with (at_builtin; refine wpList_append_own _ rfl (.tmp 82) (.tmp 87) 51 rfl w2.heap.size 54 j0 (.slice none 0 0) 1 24 Try.underlying51 hj0 jz0 jz1 jz2 rfl (by decide) _ P.length _ rfl (HI5.out.alloc _) ⟨w5.heap.size, 0, none⟩ 1 1 [.slice A' xs.length c'] rfl rfl (one_new rfl) (one_cell rfl) ?c3 ?c4 ?c5 ?_)
        case c3 => unfold maxLen; omega
        case c4 => omega
        case c5 => simp; omega
        intro v6 w6 h6 hg6 _
        obtain ⟨A6, c6, rfl⟩ := own_slice_ h6
        have HP6 := hid_ (pool_own HP5.out HI5.out hg6 hb1 hq1)
        have HU6 := hid_ (app_upd1 HI5.out HU5.out (Nat.le_refl _) hg6)
        have HBW6 := hid_ (BackW.addI (r := ⟨.slice A4 L.length c4, L, .slice A' xs.length c', xs⟩) hww H5.out HI5.out HT5.out hg6 h6)
        have HLW6 : Hid (BackLaw s2 (P ++ [⟨.slice A4 L.length c4, L, .slice A' xs.length c', xs⟩]) ∧ s2.pages.length = m) := ⟨(HLW2 _ _).out, HLN.out⟩
        clear h6 hg6 H5 HI5 HT5 HP5 HU5 d5 HLW2 HLN
        go_wp2_with fail
        go_roundw
        case rel =>
          refine ⟨i + 1, P ++ [⟨.slice A4 L.length c4, L, .slice A' xs.length c', xs⟩], s2, A5, A6, c5, c6, by omega, by omega, by rw [List.length_append]; simp; omega, by go_num, ?_, ?_, ?_, HP6, HLW6, HU6⟩
          · rw [List.length_append]; rfl
          · rw [List.length_append]; rfl
          · rw [List.length_append]; exact HBW6
        case measure => simp [intOf]; omega
      · obtain ⟨te, hte⟩ : ∃ te, s.takeE tM (needV xs.length) = te := ⟨_, rfl⟩
        have he0 : (te == 0) = false := by rw [← hte]; exact beq_eq_false_iff_ne.2 he
        rw [hte, he0] at hfit
        have hfit1 : ¬ (xs.length : Int) ≤ 32 * f := of_decide_eq_false hfit.symm
        have hfit' : 32 * f < (xs.length : Int) := by omega
        have he1 : ¬ te = 0 := by rw [← hte]; exact he
        have K2 : ∀ q, Hid (Calls Try.prog 34 #[.pointer (some ⟨b, 0, none⟩), .string tM, .slice A' xs.length c'] (wr.drewN q) fun e w' => ∃ v, e = .returned (.tuple #[v, .int .i64 te]) ∧ PoolAt w' b bq s ∧ Upd (pS b bq) wr w') := fun q => by
          refine (KP q).out.mono ?_
          rintro e w' ⟨v, rfl, h1, h2, h3⟩
          rw [if_neg he] at h2
          rw [hte]
          exact ⟨v, rfl, h2, ((Upd.refl _ wr).drewN q).trans h3⟩
        clear KP hfit he hte hfit1
        go_wp2_with (first
          | ((go_at_call 23); (have q1 := K1.out); (refine q1.mono ?_); (rintro e w3 ⟨rfl, q3, rfl⟩); (have K3 := K2 q3); (clear K1 q1 K2))
          | ((go_at_call 34); (have q1 := K3.out); (refine q1.mono ?_); (rintro e w4 ⟨v4, rfl, hp4, hu4⟩); (have HBW4 := hid_ (HBWi.out.pool hu4 hb1 hq1 hwb hwq)); (have HP4 := hid_ hp4); (have HU4 := hid_ (HUi.out.trans hu4)); (have d4 := cell_upd2 d1 hu4 (by show ¬ pS b bq b0; rintro (rfl | rfl) <;> omega)); (clear K3 q1 hp4 hu4)))
        go_roundw
        case rel => exact ⟨i + 1, P, s, A7, A8, c7, c8, by omega, by omega, by omega, by go_num, rfl, rfl, HBW4, HP4, HLWi, HU4⟩
        case measure => simp [intOf]; omega
    · obtain ⟨wo, hwo⟩ : ∃ wo : World, wo = wr := ⟨_, rfl⟩
      rw [← hwo] at HBWi HPi HUi ⊢
      clear hwo
      obtain ⟨k, hk⟩ : ∃ k, P.length = k := ⟨_, rfl⟩
      rw [hk] at hPi HBWi ⊢
      have HK := hid_ hk
      clear hk
      have hws : w2.heap.size ≤ wo.heap.size := HUi.out.size
      have hww : w.heap.size ≤ w2.heap.size := HB.out.size
      clear HX2
      have hrp := HBWi.out.rp
      have hri := HBWi.out.ri
      rw [HK.out] at hrp hri
      have HRP := hid_ hrp
      have HRI := hid_ hri
      clear hrp hri
      rcases (by omega : ¬ i < n ∨ (i < n ∧ i = 20)) with hx | ⟨hx, hy⟩
      all_goals
        clear hlt
        (try (have hx' : ¬ (i : Int) < (n : Int) := by omega))
        (try (have hx' : (i : Int) < (n : Int) := by omega))
        (try (have hy' : ¬ (i : Int) < 20 := by omega))
        (try clear hy)
        go_wp2_with fail
        go_loopw [15] (fun iv wr2 => ∃ j : Nat, j ≤ k ∧ iv = .int .i64 j ∧ Hid (Upd (fun _ => False) wo wr2)) (fun iv _ => k - (intOf iv).toNat)
        case atStart => exact ⟨0, Nat.zero_le _, rfl, hid_ (Upd.refl _ _)⟩
        case round =>
          obtain ⟨j, hj, rfl, HQ⟩ := hrel
          by_cases hlt : j < k
          · have hlt' : (j : Int) < (k : Int) := by omega
            obtain ⟨⟨v, L, u, xs⟩, hr⟩ : ∃ r, P[j]? = some r := ⟨_, List.getElem?_eq_getElem (by rw [HK.out]; exact hlt)⟩
            have hrm := List.mem_of_getElem? hr
            obtain ⟨ho, hu8⟩ := HBWi.out.it _ hrm
            obtain ⟨hH, h8, hI, hL⟩ := HLWi.out.1.holds _ hrm
            simp only at ho hu8 hH h8 hI hL
            obtain ⟨g7, hg7, _, d7⟩ := own_cell2 HRP.out (i := j) (v := v) (by rw [List.getElem?_map, hr]; rfl)
            obtain ⟨g8, hg8, _, d8⟩ := own_cell2 HRI.out (i := j) (v := u) (by rw [List.getElem?_map, hr]; rfl)
            subst hg7 hg8
            obtain ⟨A4, c4, rfl⟩ := own_slice_ ho
            obtain ⟨A1, c1, rfl, _⟩ := hu8.form
            obtain ⟨f1, f2⟩ := fetch_holds hH h8
            have HU8 := hid_ (hu8.upd HQ.out (fun _ h => h.elim))
            have HO8 := hid_ (ho.keep0 HQ.out)
            have HP8 : Hid (PoolAt wr b bq s) := PoolMem.upd HPi.out HQ.out (fun h => h) (fun h => h)
            have KF := fun q => hid_ (fetch_run (HP8.out.drewN q) HLWi.out.1.ok.len (OwnI.rd (own_drew HO8.out q)) (show L.length ≤ 1048576 by omega) (n := xs.length) hH.1)
            rw [f1, f2] at KF
            have t7 := cell_upd2 d7 HQ.out (fun h => h)
            have t8 := cell_upd2 d8 HQ.out (fun h => h)
            have hz7 := World.block_lt_of_cell? _ _ t7
            have hz8 := World.block_lt_of_cell? _ _ t8
            clear ho hu8 hH h8 hI hL d7 d8 f1 f2 hr hrm
            go_upto_region 22 with fail
            go_region_held3 (fun w' => w'.cell? ⟨g7, j, none⟩ = some (.slice A4 L.length c4) ∧ w'.cell? ⟨g8, j, none⟩ = some (.slice A1 xs.length c1)) (go_keep) ((go_at_call 35; refine (KF _).out.mono ?_; rintro e w5 ⟨v5, rfl, hb5, hx5, _⟩; have HX5 := hid_ (hx5 rfl); have HB5 := hid_ hb5; have HU5 := hid_ (HU8.out.upd (Upd.of_below (S := fun _ => False) (below_drawn_ hb5)) (fun _ h => h.elim)); have t75 := cell_upd2 t7 (Upd.of_below (S := fun _ => False) (below_drawn_ hb5)) (fun h => h); have t85 := cell_upd2 t8 (Upd.of_below (S := fun _ => False) (below_drawn_ hb5)) (fun h => h); clear hb5 hx5))
            all_goals
              have K7 := hid_ (same8_true (Rd.of_own HX5.out) HU5.out)
              have hq5 := HQ.out.trans (Upd.of_below (S := fun _ => False) (below_drawn_ HB5.out))
              have HQ5 := hid_ hq5
              clear hq5 KF HX5 HU5 HB5 HU8 HO8 HP8 t7 t8
              go_wp2_with ((go_at_call 36); (have q1 := K7.out); (refine q1.mono ?_); (rintro e w6 ⟨rfl, hu6⟩); (have HQ6 := hid_ (HQ5.out.trans hu6)); (clear K7 q1 hu6))
              go_roundw
              case rel => exact ⟨j + 1, by omega, by go_num, HQ6⟩
              case measure => simp [intOf]; omega
          · obtain rfl : j = k := by omega
            have HPj : Hid (PoolAt wr b bq (relTo s P 0)) := PoolMem.upd HPi.out HQ.out (fun h => h) (fun h => h)
            have HBWj := hid_ (HBWi.out.quiet HQ.out)
            have HUj := hid_ (HUi.out.trans (HQ.out.mono (fun _ _ h => h.elim)))
            have hrp := own_upd HRP.out HQ.out (fun _ h => h.elim)
            have HRPj := hid_ hrp
            have hsj : w2.heap.size ≤ wr.heap.size := HUj.out.size
            obtain ⟨w3, hw3⟩ : ∃ w3 : World, w3 = wr := ⟨_, rfl⟩
            rw [← hw3] at HPj HBWj HUj HRPj hsj ⊢
            clear hw3 hrp HRP HRI HBWi HPi HUi HQ hlt hj
            go_wp2_with fail
            go_loopw [18] (fun iv wr3 => ∃ q : Nat, q ≤ j ∧ iv = .int .i64 q ∧ Hid (PoolAt wr3 b bq (relTo s P q)) ∧ Hid (Upd (pS b bq) w3 wr3)) (fun iv _ => j - (intOf iv).toNat)
            case atStart => exact ⟨0, Nat.zero_le _, rfl, HPj, hid_ (Upd.refl _ _)⟩
            case round =>
              obtain ⟨q, hq, rfl, HPq, HUq⟩ := hrel
              by_cases hlt : q < j
              · have hlt' : (q : Int) < (j : Int) := by omega
                obtain ⟨r, hr⟩ : ∃ r, P[q]? = some r := ⟨_, List.getElem?_eq_getElem (by rw [HK.out]; exact hlt)⟩
                have hrm := List.mem_of_getElem? hr
                obtain ⟨ho, _⟩ := HBWj.out.it _ hrm
                obtain ⟨_, _, hI, hL⟩ := HLWi.out.1.holds _ hrm
                have hE := back_relE HLWi.out.1 hr
                have hS := relTo_succ s P hr
                obtain ⟨_, hok, _⟩ := back_rel HLWi.out.1 q (by rw [HK.out]; omega)
                obtain ⟨v, L, u, xs⟩ := r
                simp only at ho hI hL hE hS
                obtain ⟨g7, hg7, hgb, d7⟩ := own_cell2 HRPj.out (i := q) (v := v) (by rw [List.getElem?_map, hr]; rfl)
                subst hg7
                obtain ⟨A4, c4, rfl⟩ := own_slice_ ho
                have hnp := ho.notP (b := b) (bq := bq) hb1 hq1 rfl
                have K1 := hid_ (release_any HPq.out hok (by decide) (by decide) (OwnI.rd (ho.keep HUq.out hb1 hq1)) (by omega) hI hnp)
                rw [hE, ← hS] at K1
                have t7 := cell_upd2 d7 HUq.out (by show ¬ pS b bq g7; rintro (rfl | rfl) <;> omega)
                clear ho hI hL hE hS hok hnp d7 hr hrm
                go_wp2_with ((go_at_call 37); (have q1 := K1.out); (refine q1.mono ?_); (rintro e w6 ⟨rfl, hp6, hu6⟩); (have HP6 := hid_ hp6); (have HU6 := hid_ (HUq.out.trans hu6)); (clear K1 q1 hp6 hu6))
                go_roundw
                case rel => exact ⟨q + 1, by omega, by go_num, HP6, HU6⟩
                case measure => simp [intOf]; omega
              · obtain rfl : q = j := by omega
                have K1 := hid_ (sizes_any HPq.out)
                have hfree : (relTo s P q).free = (m : Int) := by
                  have h9 := back_free HLWi.out.1
                  rw [HK.out, HLWi.out.2] at h9
                  exact h9
                rw [hfree] at K1
                clear hfree
                go_wp2_with ((go_at_call 23); (have q1 := K1.out); (refine q1.mono ?_); (rintro e w6 ⟨rfl, hd6⟩); (have HU6 := hid_ (HUq.out.trans ((upd_drewN hd6).mono (fun _ _ h => h.elim)))); (clear K1 q1 hd6))
                go_ret
                exact ⟨by simp, HB.out.trans ((HUj.out.trans HU6.out).toBelow HB.out.size (fun k hk => by rcases hk with rfl | rfl <;> assumption))⟩
set_option maxRecDepth 100000 in
theorem pagedBack_args {H : Type} {enc : TypeId × Value → H} {W : World} {base : Nat} {v0 v1 : Value} {d0 d1 : DataW H} {p0 p1 : List MemPlace} {tv : List TypeId} {gs : List (DataW H)}
    (h0 : DataW.Trod enc Try.prog W 0 (fun _ => true) true 3 v0 d0 p0) (k0 : Value.okWide Try.prog W .any base 3 v0)
    (h1 : DataW.Trod enc Try.prog W 0 (fun _ => true) true 51 v1 d1 p1) (k1 : Value.okWide Try.prog W .any base 51 v1)
    (_hsz : (DataW.weightsEach Try.prog ([3, 51] ++ tv) ([d0, d1] ++ gs)).all (· ≤ reachBytes) = true) :
    Calls Try.prog 7 #[v0, v1] W (TruePost W) := by
  obtain ⟨a0, rfl, rfl, rfl, _⟩ := open_int Try.underlying3 k0 h0
  obtain ⟨fuel, hf⟩ := h1
  have hv := okWide_slice Try.underlying51 k1
  obtain ⟨D, hD, _, hw, _⟩ := rows_trod Try.underlying51 Try.underlying54 Try.underlying73 (by kernel_rfl) (by kernel_rfl) (v := v1) (by
    obtain ⟨a, n, c, rfl⟩ := hv
    exact hf)
  obtain ⟨A, c, rfl, _, hm⟩ := rdr_form hD.r
  exact pagedBack_walk a0 rfl (rowAt_of hD (fun i hi => (hw i hi).1)) hm
end Go.Proofs.Ytelmolblcnolnaa
