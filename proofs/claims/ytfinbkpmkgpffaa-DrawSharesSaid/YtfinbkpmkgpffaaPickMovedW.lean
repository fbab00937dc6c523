/- PickMoved walked: it returns true. Conditions: none beyond the reading of the arguments. -/
import Derived.Test.YtfinbkpmkgpffaaPickFewerW
import Derived.Test.YtfinbkpmkgpffaaArgs
import Derived.Maps.AppendAt
namespace Go.Proofs.Ytfinbkpmkgpffaa
open Go.RowKit Go.ChangeShapes Go.WideShapes Go.ChangeAt

/-! ### the plain law -/
theorem order_ext {xs ys : List Int} (hl : xs.length = ys.length) (h : ∀ i : Int, 0 ≤ i → i < (xs.length : Int) → rankV ys i = rankV xs i) : order ys = order xs := by
  refine list_eq_of_getD (by rw [order_length, order_length, hl]) (fun t ht => ?_)
  rw [order_length, ← hl] at ht
  have h1 := order_at ht
  have h2 := rankV_order ht
  rw [← h _ h1.1 h1.2] at h2
  exact (order_of_rank h1.1 (by rw [← hl]; exact h1.2) h2).2
theorem rank_ext {xs ys : List Int} (hl : xs.length = ys.length) (h : ∀ i j : Nat, i < xs.length → j < xs.length → (ltx ys i j ↔ ltx xs i j)) (i : Int) (h0 : 0 ≤ i) (h1 : i < (xs.length : Int)) : rankV ys i = rankV xs i := by
  obtain ⟨i, rfl⟩ : ∃ k : Nat, i = k := ⟨i.toNat, by omega⟩
  rw [rankV, rankV, if_neg (by omega), if_neg (by omega), ← hl]
  unfold rankTo
  congr 1
  refine List.countP_congr (fun j hj => ?_)
  have hj' := mem_iota.1 hj
  obtain ⟨j, rfl⟩ : ∃ k : Nat, j = k := ⟨j.toNat, by omega⟩
  have := h j i (by omega) (by omega)
  simp only [decide_eq_true_eq]
  exact this
theorem getD_map_ (f : Int → Int) (l : List Int) {k : Nat} (hk : k < l.length) : (l.map f).getD k 0 = f (l.getD k 0) := by
  rw [List.getD_eq_getElem?_getD, List.getD_eq_getElem?_getD, List.getElem?_map, List.getElem?_eq_getElem hk]
  rfl
theorem order_moved (xs : List Int) (b : Int) : order (xs.map (· + b)) = order xs := by
  refine order_ext (by simp) (rank_ext (by simp) (fun i j hi hj => ?_))
  unfold ltx
  rw [Int.toNat_natCast, Int.toNat_natCast, getD_map_ _ _ hi, getD_map_ _ _ hj]
  omega
theorem getD_snoc (l : List Int) (x : Int) {k : Nat} (hk : k < l.length) : (l ++ [x]).getD k 0 = l.getD k 0 := by
  rw [List.getD_eq_getElem?_getD, List.getD_eq_getElem?_getD, List.getElem?_append_left hk]
theorem getD_last (l : List Int) (x : Int) : (l ++ [x]).getD l.length 0 = x := by
  rw [List.getD_eq_getElem?_getD, List.getElem?_append_right (Nat.le_refl _)]
  simp
theorem order_low (xs : List Int) (x : Int) (h : ∀ y ∈ xs, x < y) : order (xs ++ [x]) = order xs ++ [(xs.length : Int)] := by
  have hlow : ∀ k, k < xs.length → x < xs.getD k 0 := fun k hk => by
    rw [List.getD_eq_getElem?_getD, List.getElem?_eq_getElem hk]
    exact h _ (List.getElem_mem hk)
  have hrank : ∀ i : Nat, i < xs.length → rankV (xs ++ [x]) i = rankV xs i := fun i hi => by
    rw [rankV, rankV, if_neg (by simp; omega), if_neg (by omega)]
    rw [List.length_append]
    show ((rankTo (xs ++ [x]) i (xs.length + 1) : Nat) : Int) = _
    rw [rankTo_succ]
    have h1 : ¬ ltx (xs ++ [x]) (xs.length : Int) i := by
      unfold ltx
      rw [Int.toNat_natCast, Int.toNat_natCast, getD_last, getD_snoc _ _ hi]
      have := hlow i hi
      omega
    rw [if_neg h1, Nat.add_zero]
    congr 1
    unfold rankTo
    refine List.countP_congr (fun j hj => ?_)
    have hj' := mem_iota.1 hj
    obtain ⟨j, rfl⟩ : ∃ k : Nat, j = k := ⟨j.toNat, by omega⟩
    simp only [decide_eq_true_eq]
    unfold ltx
    rw [Int.toNat_natCast, Int.toNat_natCast, getD_snoc _ _ hi, getD_snoc _ _ (by omega)]
  have hlast : rankV (xs ++ [x]) (xs.length : Nat) = (xs.length : Nat) := by
    rw [rankV, if_neg (by simp; omega), List.length_append]
    show ((rankTo (xs ++ [x]) (xs.length : Nat) (xs.length + 1) : Nat) : Int) = _
    rw [rankTo_succ, if_neg (ltx_irr _ _), Nat.add_zero]
    congr 1
    unfold rankTo
    refine Eq.trans (List.countP_eq_length.2 (fun j hj => ?_)) (iota_length _)
    have hj' := mem_iota.1 hj
    obtain ⟨j, rfl⟩ : ∃ k : Nat, j = k := ⟨j.toNat, by omega⟩
    refine decide_eq_true (.inl ?_)
    rw [Int.toNat_natCast, Int.toNat_natCast, getD_last, getD_snoc _ _ (by omega)]
    exact hlow j (by omega)
  refine list_eq_of_getD (by rw [order_length, List.length_append, List.length_append, order_length]; rfl) (fun t ht => ?_)
  rw [order_length, List.length_append] at ht
  by_cases hc : t < xs.length
  · rw [getD_snoc _ _ (by rw [order_length]; exact hc)]
    have h1 := order_at hc
    have h2 := rankV_order hc
    obtain ⟨k, hk⟩ : ∃ k : Nat, (order xs).getD t 0 = k := ⟨((order xs).getD t 0).toNat, by omega⟩
    rw [hk] at h1 h2 ⊢
    rw [← hrank k (by omega)] at h2
    exact (order_of_rank (by omega) (by simp; omega) h2).2
  · have : t = xs.length := by simp at ht; omega
    subst this
    have e : (order xs ++ [(xs.length : Int)]).getD xs.length 0 = (xs.length : Int) := by
      have := getD_last (order xs) (xs.length : Int)
      rw [order_length] at this
      exact this
    rw [e]
    exact (order_of_rank (by omega) (by simp; omega) hlast).2

/-! ### the loop's lists -/
def mod40 (v : Int) : Int := v.tmod 1099511627776
theorem mod40_range (v : Int) : -1099511627776 < mod40 v ∧ mod40 v < 1099511627776 := by
  unfold mod40
  have h := Int.natAbs_tmod v 1099511627776
  have h2 : v.natAbs % (1099511627776 : Int).natAbs < 1099511627776 := Nat.mod_lt _ (by decide)
  omega
def aL (xs : List Int) (k : Nat) : List Int := (xs.take k).map mod40
def bL (xs : List Int) (b : Int) (k : Nat) : List Int := (aL xs k).map (· + b)
theorem aL_succ (xs : List Int) {k : Nat} (hk : k < xs.length) : aL xs (k + 1) = aL xs k ++ [mod40 (xs.getD k 0)] := by
  rw [aL, List.take_succ_eq_append_getElem hk, List.map_append, List.getD_eq_getElem?_getD, List.getElem?_eq_getElem hk]
  rfl
theorem bL_succ (xs : List Int) (b : Int) {k : Nat} (hk : k < xs.length) : bL xs b (k + 1) = bL xs b k ++ [mod40 (xs.getD k 0) + b] := by
  rw [bL, aL_succ xs hk, List.map_append]
  rfl
theorem aL_length (xs : List Int) {k : Nat} (hk : k ≤ xs.length) : (aL xs k).length = k := by simp [aL]; omega
theorem bL_length (xs : List Int) (b : Int) {k : Nat} (hk : k ≤ xs.length) : (bL xs b k).length = k := by rw [bL, List.length_map, aL_length xs hk]
def Low (xs : List Int) (k : Nat) (lo : Int) : Prop := -1099511627776 < lo ∧ lo ≤ 1125899906842624 ∧ ∀ y ∈ aL xs k, lo ≤ y
theorem Low.next {xs : List Int} {k : Nat} {lo : Int} (h : Low xs k lo) (hk : k < xs.length) : Low xs (k + 1) (min lo (mod40 (xs.getD k 0))) := by
  have hr := mod40_range (xs.getD k 0)
  obtain ⟨h1, h2, h3⟩ := h
  refine ⟨by omega, by omega, fun y hy => ?_⟩
  rw [aL_succ xs hk, List.mem_append] at hy
  rcases hy with hy | hy
  · have := h3 y hy; omega
  · rw [List.mem_singleton] at hy; omega

theorem own_form_ {w : World} {base n : Nat} {e : TypeId} {size : Nat} {v : Value} {xs : List Value} (h : w.ownsRow base e size v n xs) : Form v := by
  rcases h.2 with ⟨rfl, rfl⟩ | ⟨g, cap, cur, rfl, _⟩
  · exact .inl rfl
  · exact .inr ⟨_, _, _, rfl⟩
theorem own_lt_ {w : World} {base n : Nat} {e : TypeId} {size : Nat} {v : Value} {xs : List Value} (h : w.ownsRow base e size v n xs) {g : Nat} (hg : v.ownBlock = some g) : g < w.heap.size := by
  rcases h.2 with ⟨rfl, rfl⟩ | ⟨g', cap, cur, rfl, hb, hh, _⟩
  · simp [Value.ownBlock] at hg
  · have : g' = g := by simpa [Value.ownBlock] using hg
    subst this
    rcases Nat.lt_or_ge g' w.heap.size with hlt | hge
    · exact hlt
    · rw [Array.getElem?_eq_none hge] at hh; cases hh
/-- two rows that lie apart -/
def Apart (v u : Value) : Prop := v.ownBlock = none ∨ v.ownBlock ≠ u.ownBlock
theorem own_other_ {w w1 : World} {base n : Nat} {e : TypeId} {v u : Value} {xs : List Value} (h : w.ownsRow base e 1 v n xs) {o : Obj} (hg : (w.alloc o).grownBy w1 u.ownBlock) (hne : Apart v u) : w1.ownsRow base e 1 v n xs := (h.alloc o).kept hg hne
theorem apart_next {w : World} {base base' n n' : Nat} {e e' : TypeId} {v u u' : Value} {xs xs' : List Value} (h : w.ownsRow base e 1 v n xs) (hu : Apart v u) (hb : u'.ownBlock = u.ownBlock ∨ ∃ k, u'.ownBlock = some k ∧ w.heap.size ≤ k) (_h' : w.ownsRow base' e' 1 u n' xs') : Apart v u' := by
  rcases hb with hb | ⟨k, hb, hk⟩
  · unfold Apart; rw [hb]; exact hu
  · by_cases hv : v.ownBlock = none
    · exact .inl hv
    · refine .inr (fun e => ?_)
      rw [hb] at e
      have := own_lt_ h e
      omega
theorem Apart.symm {v u : Value} (h : Apart v u) : Apart u v := by
  unfold Apart at *
  by_cases hu : u.ownBlock = none
  · exact .inl hu
  · refine .inr (fun e => ?_)
    rcases h with h | h
    · rw [h] at e; exact hu e
    · exact h e.symm

set_option maxRecDepth 100000 in
set_option maxHeartbeats 3200000 in
theorem pickMoved_run {w : World} {xs : List Int} {A : Option Addr} {c n : Nat} (hx : RdI w w.heap.size .i64 (.slice A n c) xs) (hn : xs.length = n) (h300 : ¬ 300 < n) (by_ : Int) :
    Calls Try.prog 7 #[.slice A n c, .int .i64 by_] w (TruePost w) := by
  obtain ⟨i0, hi0, hz0, hz1, hz2⟩ := info_parts Try.infoI64
  have HX := hid_ hx
  have HN := hid_ hn
  have HW := hid_ (works07_any w)
  have h300' : ¬ (300 : Int) < (n : Int) := by omega
  clear hx hn
  have hbr := mod40_range by_
  go_enter Try.func7, Try.ntmps7
  go_wp2_with ((go_at_call 28); (refine HW.out.mono ?_); (rintro e w1 ⟨rfl, hb⟩); (have HX1 := hid_ (HX.out.next hb)); (have HB1 := hid_ (Upd.of_below (S := fun _ => False) hb)); (clear hb))
  have hM : by_.tmod 1099511627776 = mod40 by_ := rfl
  rw [hM]
  clear hM HW
  generalize mod40 by_ = b40 at *
  go_loopg [5, 6, 7, 8] n (fun g av bv lv iv wr => ∃ (i ca cb : Nat) (Aa Ab : Option Addr) (lo : Int), i ≤ n ∧ n ≤ g + i ∧ iv = .int .i64 i ∧ av = .slice Aa i ca ∧ bv = .slice Ab i cb ∧ lv = .int .i64 lo ∧ Hid (Low xs i lo) ∧
    Hid (wr.ownsRow w1.heap.size 2 1 (.slice Aa i ca) i ((aL xs i).map (Value.int .i64))) ∧ Hid (wr.ownsRow w1.heap.size 2 1 (.slice Ab i cb) i ((bL xs b40 i).map (Value.int .i64))) ∧ Hid (Apart (.slice Aa i ca) (.slice Ab i cb)) ∧ Hid (Upd (fun _ => False) w1 wr))
  case atStart => exact ⟨0, 0, 0, none, none, _, Nat.zero_le _, by omega, rfl, rfl, rfl, rfl, hid_ ⟨by omega, by omega, fun y hy => by simp [aL] at hy⟩, hid_ (World.ownsRow_nil _ _ _ _), hid_ (World.ownsRow_nil _ _ _ _), hid_ (.inl rfl), hid_ (Upd.refl _ _)⟩
  case round =>
    obtain ⟨i, ca, cb, Aa, Ab, lo, him, hg, rfl, rfl, rfl, rfl, HLO, HOa, HOb, HAP, HU⟩ := hrel
    by_cases hlt : i < n
    · have hlt' : (i : Int) < (n : Int) := by omega
      have hkl : i < xs.length := by rw [HN.out]; exact hlt
      obtain ⟨bb, oo, rfl, cc⟩ := rdi_cell (rdi_below HX1.out HU.out.toB) hkl
      have HSa := hid_ (aL_succ xs hkl)
      have HSb := hid_ (bL_succ xs b40 hkl)
      have HLN := hid_ (HLO.out.next hkl)
      have hvr := mod40_range (xs.getD i 0)
      have hmd : (xs.getD i 0).tmod 1099511627776 = mod40 (xs.getD i 0) := rfl
      generalize xs.getD i 0 = y at *
      generalize mod40 y = v40 at *
      generalize aL xs i = la at *
      generalize bL xs b40 i = lb at *
      have hl1 := HLO.out.1
      have hl2 := HLO.out.2.1
      clear hkl
      go_wp2_with (at_builtin; refine wpList_append_own_at _ rfl (.tmp 30) (.tmp 32) 29 rfl w1.heap.size 2 i0 (.int .i64 0) 1 8 Try.underlying29 hi0 hz0 hz1 hz2 rfl (by decide) _ i _ rfl (HOa.out.alloc _) ⟨wr.heap.size, 0, none⟩ 1 1 [.int .i64 v40] rfl rfl (one_new rfl) (one_cell rfl) ?c3 ?c4 ?c5 ?_)
      case c3 => unfold maxLen; omega
      case c4 => omega
      case c5 => have := HU.out.size; simp; omega
      intro va w5 h5 hg5 _ hb5
      obtain ⟨A5, c5, rfl⟩ := own_slice_ h5
      have HO5 := hid_ h5
      have HOb5 := hid_ (own_other_ HOb.out hg5 HAP.out.symm)
      have HU5 := hid_ (app_upd1 HOa.out HU.out (Nat.le_refl _) hg5)
      have hap5 : Apart (.slice Ab i cb) (.slice A5 (i + 1) c5) := by
        refine apart_next HOb.out HAP.out.symm ?_ HOa.out
        rcases hb5 with h | h
        · exact .inl h
        · exact .inr ⟨_, h, by simp⟩
      have HAP5 := hid_ hap5
      clear h5 hg5 hb5 hap5 HOb HOa HU HAP
      go_wp2_with (at_builtin; refine wpList_append_own_at _ rfl (.tmp 34) (.tmp 38) 29 rfl w1.heap.size 2 i0 (.int .i64 0) 1 8 Try.underlying29 hi0 hz0 hz1 hz2 rfl (by decide) _ i _ rfl (HOb5.out.alloc _) ⟨w5.heap.size, 0, none⟩ 1 1 [.int .i64 (v40 + b40)] rfl rfl (one_new rfl) (one_cell rfl) ?c3 ?c4 ?c5 ?_)
      case c3 => unfold maxLen; omega
      case c4 => omega
      case c5 => have := HU5.out.size; simp; omega
      intro vb w6 h6 hg6 _ hb6
      obtain ⟨A6, c6, rfl⟩ := own_slice_ h6
      have HO6 := hid_ h6
      have HOa6 := hid_ (own_other_ HO5.out hg6 HAP5.out.symm)
      have HU6 := hid_ (app_upd1 HOb5.out HU5.out (Nat.le_refl _) hg6)
      have hap6 : Apart (.slice A5 (i + 1) c5) (.slice A6 (i + 1) c6) := by
        refine apart_next HO5.out HAP5.out.symm ?_ HOb5.out
        rcases hb6 with h | h
        · exact .inl h
        · exact .inr ⟨_, h, by simp⟩
      have HAP6 := hid_ hap6
      clear h6 hg6 hb6 hap6 HO5 HOb5 HU5 HAP5
      by_cases hmn : v40 < lo
      · go_wp2_with fail
        go_roundg (n - (i + 1))
        case measure => omega
        case rel =>
          have h9 := HLN.out
          rw [Int.min_eq_right (by omega)] at h9
          exact ⟨i + 1, c5, c6, A5, A6, v40, by omega, by omega, by go_num, rfl, rfl, rfl, hid_ h9, by rw [HSa.out, List.map_append]; exact HOa6, by rw [HSb.out, List.map_append]; exact HO6, HAP6, HU6⟩
      · go_wp2_with fail
        go_roundg (n - (i + 1))
        case measure => omega
        case rel =>
          have h9 := HLN.out
          rw [Int.min_eq_left (by omega)] at h9
          exact ⟨i + 1, c5, c6, A5, A6, lo, by omega, by omega, by go_num, rfl, rfl, rfl, hid_ h9, by rw [HSa.out, List.map_append]; exact HOa6, by rw [HSb.out, List.map_append]; exact HO6, HAP6, HU6⟩
    · obtain rfl : i = n := by omega
      have hla : (aL xs i).length = i := aL_length xs (by rw [HN.out]; exact Nat.le_refl _)
      have hlb : bL xs b40 i = (aL xs i).map (· + b40) := rfl
      have hlow := HLO.out
      have HL1 := hlow.1
      have HL2 := hlow.2.1
      have hlow3 : ∀ y ∈ aL xs i, lo - 1 < y := fun y hy => by have := hlow.2.2 y hy; omega
      have ha : RdI wr wr.heap.size .i64 (.slice Aa i ca) (aL xs i) := by
        have h1 := HOa.out
        rw [← hla] at h1
        have h2 := Rd.of_own (xs := (aL xs (aL xs i).length).map (Value.int .i64)) (by rw [hla] at h1 ⊢; exact h1)
        rw [hla] at h2
        exact h2
      have hb : RdI wr wr.heap.size .i64 (.slice Ab i cb) ((aL xs i).map (· + b40)) := Rd.of_own HOb.out
      have hf := own_form_ HOa.out
      generalize aL xs i = la at *
      have hT : ∀ (w : World) (v : Value) (l : List Int), RdI w w.heap.size .i64 v l → l.length = i → Calls Try.prog 23 #[v, .int .i64 (i : Int)] w (ShapePost w i (order l)) := fun w v l h hl => by
        have h1 := top_any h (by omega) (i : Int)
        rw [show (i : Int) = (l.length : Nat) by rw [hl], take_clamp_all] at h1
        exact (by rw [hl] at h1; exact h1.mono (fun _ _ h => shape_of (by rw [order_length, hl]) h))
      have HT := hid_ hT
      have HLA := hid_ hla
      have HLB : Hid (((la.map (· + b40)).length) = i) := by show _ = _; rw [List.length_map, hla]
      have HA := hid_ ha
      have HBB := hid_ hb
      have HFO := hid_ hf
      have HLW := hid_ hlow3
      clear HOa HOb HAP HLO hlow hlb hla ha hb hf hT hlow3 hg him
      go_wp2_with (first
        | ((go_at_call 23); (have h9 := HA2.out); (clear h9); (refine (HT.out _ _ _ HBB2.out HLB.out).mono ?_); (rintro e w3 ⟨Am, cm, rfl, hr, hb⟩); (have HA3 := hid_ (HA2.out.next hb)); (have HR3 := hid_ (HR2.out.next hb)); (have HM3 := hid_ hr); (rw [order_moved] at HM3); (have HU3 := hid_ (HU2.out.below hb)); (clear hb hr HA2 HR2 HBB2))
        | ((go_at_call 23); (refine (HT.out _ _ _ HA.out HLA.out).mono ?_); (rintro e w2 ⟨Al, cl, rfl, hr, hb⟩); (have HA2 := hid_ (HA.out.next hb)); (have HBB2 := hid_ (HBB.out.next hb)); (have HR2 := hid_ hr); (have HU2 := hid_ (HU.out.below hb)); (clear hb hr HA HBB))
        | ((go_at_call 22); (refine (same7t HR3.out HM3.out).mono ?_); (rintro e w4 ⟨rfl, hb⟩); (have HA4 := hid_ (HA3.out.next hb)); (have HR4 := hid_ (HR3.out.next hb)); (have HU4 := hid_ (HU3.out.below hb)); (have HE4 := hid_ (own_empty_ w4 2)); (have HA4b := hid_ (rdi_below HA4.out (below_alloc w4 (.cells #[] 2)))); (clear hb))
        | (at_builtin; refine wpList_append_rd rfl (.tmp 54) (.tmp 55) 29 rfl w4.heap.size 2 i0 (.int .i64 0) 8 Try.underlying29 hi0 hz0 hz1 hz2 rfl _ 0 [] rfl HE4.out w4.heap.size _ _ rfl HA4b.out HFO.out (ints_one _) ?c3 ?c4 ?c5 ?_))
      case c3 => have := HLA.out; unfold maxLen; simp; omega
      case c4 => have := HLA.out; simp; omega
      case c5 => simp
      intro v5 w5 hO5 hg5
      have hcp : ∃ A5 c5, v5 = .slice A5 i c5 ∧ w5.ownsRow w4.heap.size 2 1 (.slice A5 i c5) i (la.map (Value.int .i64)) ∧ Below w4.heap.size w4 w5 := by
        rw [HLA.out] at hO5
        obtain ⟨A5, c5, rfl⟩ := own_slice_ hO5
        refine ⟨A5, c5, rfl, hO5, (Upd.grown (S := fun _ => False) ((Upd.refl _ w4).alloc (.cells #[] 2)) hg5 (fun g h => .inr ?_)).toB⟩
        have h9 : some w4.heap.size = some g := h
        injection h9 with h9
        omega
      obtain ⟨A5, c5, rfl, hO5b, hb5⟩ := hcp
      have HO5 := hid_ hO5b
      have HB5 := hid_ hb5
      have hs5 := hb5.size
      clear hO5 hO5b hg5 hb5 HE4 HA4b
      go_wp2_with (at_builtin; refine wpList_append_own _ rfl (.tmp 56) (.tmp 59) 29 rfl w4.heap.size 2 i0 (.int .i64 0) 1 8 Try.underlying29 hi0 hz0 hz1 hz2 rfl (by decide) _ i _ rfl (HO5.out.alloc _) ⟨w5.heap.size, 0, none⟩ 1 1 [.int .i64 (lo - 1)] rfl rfl (one_new rfl) (one_cell rfl) ?d3 ?d4 ?d5 ?_)
      case d3 => unfold maxLen; omega
      case d4 => omega
      case d5 => simp; omega
      intro v6 w6 h6 hg6 _
      obtain ⟨A6, c6, rfl⟩ := own_slice_ h6
      have hU6 : Upd (fun _ => False) w4 w6 := app_upd1 HO5.out (Upd.of_below HB5.out) (Nat.le_refl _) hg6
      have HR6 := hid_ (HR4.out.next hU6.toB)
      have HU6 := hid_ (HU4.out.below hU6.toB)
      have hm6 : RdI w6 w6.heap.size .i64 (.slice A6 (i + 1) c6) (la ++ [lo - 1]) := by
        have h9 := Rd.of_own h6
        show Rd _ _ _ _
        rw [List.map_append]
        exact h9
      have hT6 := top_any hm6 (by rw [List.length_append, HLA.out]; simp; omega) ((i : Int) + 1)
      have hcl : clamp ((i : Int) + 1) (la ++ [lo - 1]).length = i + 1 := by rw [List.length_append, HLA.out]; unfold clamp; simp; omega
      rw [hcl, order_low la (lo - 1) HLW.out, HLA.out] at hT6
      have hol : (order la).length = i := by rw [order_length, HLA.out]
      rw [List.take_of_length_le (by rw [List.length_append, hol]; simp)] at hT6
      have HT6 := hid_ (hT6.mono (fun _ _ h => shape_of (n := i + 1) (by rw [List.length_append, hol]; rfl) h))
      have HOL := hid_ hol
      clear h6 hg6 hU6 hm6 hT6 hcl hol HO5 HB5 HA4 HT
      go_wp2_with (first
        | ((go_at_call 23); (refine HT6.out.mono ?_); (rintro e w7 ⟨A7, c7, rfl, hr, hb⟩); (have HR7 := hid_ (HR6.out.next hb)); (have HM7 := hid_ hr); (have HU7 := hid_ (HU6.out.below hb)); (obtain ⟨b7, o7, rfl, cc7⟩ := rdi_cell (j := i) hr (by rw [List.length_append, HOL.out]; simp)); (have hcp7 := (rdi_len hr).2.1); (have hcq7 : i ≤ c7 := by omega); (rw [show (order la ++ [(i : Int)]).getD i 0 = (i : Int) from by (have := getD_last (order la) (i : Int)); rw [HOL.out] at this; exact this] at cc7); (clear hb hr))
        | ((go_at_call 22); (refine (same7t (w := w7) (l := order la) (by have h9 := rdi_take_ (p := i) (q := c7) HM7.out (by omega) (by omega); rw [List.take_left' HOL.out] at h9; exact h9) HR7.out).mono ?_); (rintro e w8 ⟨rfl, hb⟩); (have HU8 := hid_ (HU7.out.below hb)); (have cc8 := (Upd.of_below (S := fun _ => False) hb).cell (p := ⟨b7, o7 + i, none⟩) (World.block_lt_of_cell? w7 _ cc7) (fun h => h)); (rw [cc7] at cc8); (clear hb cc7)))
      go_ret
      exact ⟨rfl, (HB1.out.trans HU8.out).toBelow (Nat.le_refl _) (fun _ h => h.elim)⟩

set_option maxRecDepth 100000 in
set_option maxHeartbeats 800000 in
theorem pickMoved_walk {w : World} {v : Value} {xs : List Int} (hx : RdI w w.heap.size .i64 v xs) (b : Int) :
    Calls Try.prog 7 #[v, .int .i64 b] w (TruePost w) := by
  obtain ⟨A, c, hv, hc, hm, hcx⟩ := hx.form
  clear hcx hm hc
  subst hv
  by_cases h300 : 300 < xs.length
  · have h300' : (300 : Int) < (xs.length : Int) := by omega
    have HW := hid_ (works07_any w)
    clear hx
    go_enter Try.func7, Try.ntmps7
    go_wp2_with ((go_at_call 28); (refine HW.out.mono ?_); (rintro e w1 ⟨rfl, hb⟩); (have HB := hid_ hb); (clear hb))
    go_ret
    exact ⟨rfl, HB.out⟩
  · exact pickMoved_run hx rfl h300 b
set_option maxRecDepth 100000 in
theorem pickMoved_args {H : Type} {enc : TypeId × Value → H} {W : World} {base : Nat} {v0 v1 : Value} {d0 d1 : DataW H} {p0 p1 : List MemPlace} {tv : List TypeId} {gs : List (DataW H)}
    (h0 : DataW.Trod enc Try.prog W 0 (fun _ => true) true 29 v0 d0 p0) (k0 : Value.okWide Try.prog W .any base 29 v0) (h1 : DataW.Trod enc Try.prog W 0 (fun _ => true) true 2 v1 d1 p1) (k1 : Value.okWide Try.prog W .any base 2 v1)
    (_hsz : (DataW.weightsEach Try.prog ([29, 2] ++ tv) ([d0, d1] ++ gs)).all (· ≤ reachBytes) = true) :
    Calls Try.prog 7 #[v0, v1] W (TruePost W) := by
  obtain ⟨xs, hx, _⟩ := ints_open h0 k0
  obtain ⟨a1, rfl, rfl, rfl, _⟩ := open_int Try.underlying2 k1 h1
  exact pickMoved_walk hx a1
end Go.Proofs.Ytfinbkpmkgpffaa
