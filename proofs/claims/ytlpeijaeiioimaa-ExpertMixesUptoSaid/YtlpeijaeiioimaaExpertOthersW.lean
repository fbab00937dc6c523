/- ExpertOthers walked: it returns true. Conditions: what comes in is of bulk at most 1048576. -/
import Derived.Test.YtlpeijaeiioimaaOthersLaw
import Derived.Test.YtlpeijaeiioimaaOwnW
namespace Go.Proofs.Ytlpeijaeiioimaa
open Go.RowKit Go.ChangeShapes Go.WideShapes Go.ChangeAt

/-- rows, each a copy of its own or the row that came in -/
def SR (w : World) (wv : Value) (wl : List Int) (vs : List Value) (L : List (List Int)) : Prop :=
  vs.length = L.length ∧ ∀ j, j < L.length → (∃ base, w.ownsRow base 87 1 (vs.getD j (.slice none 0 0)) (L.getD j []).length ((L.getD j []).map (Value.int .i8))) ∨ (vs.getD j (.slice none 0 0) = wv ∧ L.getD j [] = wl)
theorem SR.of {w : World} {wv : Value} {wl : List Int} {vs : List Value} {L : List (List Int)} (h : ORows w vs L L.length) : SR w wv wl vs L := ⟨h.1, fun j hj => .inl (h.2 j hj)⟩
theorem SR.r {w : World} {wv v : Value} {wl : List Int} {vs : List Value} {L : List (List Int)} {base B n : Nat} (h : SR w wv wl vs L) (hO : w.ownsRow base 22 1 v n vs) (hw : RdI w B .i8 wv wl) : RdR w w.heap.size v L :=
  ⟨vs, Rd.of_own hO, h.1, fun i hi => by
    rcases h.2 i hi with ⟨_, h1⟩ | ⟨h1, h2⟩
    · exact ⟨w.heap.size, Rd.of_own h1⟩
    · exact ⟨B, by rw [h1, h2]; exact hw⟩⟩
/-- a store into one of the two outer rows -/
theorem SR.keep {w w' : World} {wv : Value} {wl : List Int} {vs : List Value} {L : List (List Int)} {g1 g2 : Nat} {c1 c2 : Array Value} (h : SR w wv wl vs L) (hu : Upd (fun k => k = g1 ∨ k = g2) w w') (b1 : Blk w g1 22 c1) (b2 : Blk w g2 22 c2) : SR w' wv wl vs L :=
  ⟨h.1, fun j hj => (h.2 j hj).imp (fun ⟨b, h⟩ => ⟨b, own_upd h hu (fun k hk _ _ hb => by
    rcases hk with rfl | rfl
    · exact own_ty.own_ne_blk h b1 (by decide) hb.symm
    · exact own_ty.own_ne_blk h b2 (by decide) hb.symm)⟩) (fun h => h)⟩
set_option linter.unusedSimpArgs false in
theorem SR.set {w : World} {wv : Value} {wl ch : List Int} {q i : Nat} {vs : List Value} {U : List (List Int)} (h : SR w wv wl vs (replR ch q wl U i)) (hi : i < U.length) (hn : inTo ch i q = false) : SR w wv wl (vs.set i wv) (replR ch q wl U (i + 1)) := by
  refine ⟨by rw [List.length_set, h.1, replR_length, replR_length], fun j hj => ?_⟩
  rw [replR_length] at hj
  by_cases hji : j = i
  · subst hji
    refine .inr ⟨?_, by rw [replR_at hj, if_pos ⟨by omega, hn⟩]⟩
    have hv : j < vs.length := by rw [h.1, replR_length]; exact hj
    simp [List.getD_eq_getElem?_getD, List.getElem?_set, hv]
  · have h1 := h.2 j (by rw [replR_length]; exact hj)
    have h2 : (replR ch q wl U (i + 1)).getD j [] = (replR ch q wl U i).getD j [] := by
      rw [replR_at hj, replR_at hj]
      by_cases h3 : j < i
      · simp only [h3, show j < i + 1 by omega]
      · rw [if_neg (by omega), if_neg (by omega)]
    have h3 : (vs.set i wv).getD j (.slice none 0 0) = vs.getD j (.slice none 0 0) := by
      rw [List.getD_eq_getElem?_getD, List.getD_eq_getElem?_getD, List.getElem?_set_ne (by omega)]
    rw [h2, h3]
    exact h1
theorem replR_zero (ch : List Int) (q : Nat) (wl : List Int) (U : List (List Int)) : replR ch q wl U 0 = U := by
  refine List.ext_getElem? (fun j => ?_)
  rw [replR, List.getElem?_map]
  rcases Nat.lt_or_ge j U.length with h | h
  · rw [List.getElem?_range h, List.getElem?_eq_getElem h]
    simp [List.getD_eq_getElem?_getD, List.getElem?_eq_getElem h]
  · rw [List.getElem?_eq_none (by simpa using h), List.getElem?_eq_none h]
    rfl

theorem own_blk {w : World} {base g n c m : Nat} {e : TypeId} {xs : List Value} (h : w.ownsRow base e 1 (.slice (some ⟨g, 0, none⟩) n c) m xs) : ∃ cs, Blk w g e cs ∧ base ≤ g := by
  rcases h.2 with ⟨h0, _⟩ | ⟨g1, cap, cur, hv, hb, hblk, _⟩
  · cases h0
  · injection hv with h1 _ _
    injection h1 with h1
    injection h1 with h1 _ _
    subst h1
    exact ⟨cur, hblk, hb⟩
/-- both outer rows are stored into -/
theorem store_both {wr : World} {wv : Value} {wl ch : List Int} {q i u g1 g2 b1 b2 c5 c6 : Nat} {vs1 vs2 : List Value} {U D : List (List Int)} (hne : g1 ≠ g2) (h1 : wr.ownsRow b1 22 1 (.slice (some ⟨g1, 0, none⟩) u c5) u vs1) (h2 : wr.ownsRow b2 22 1 (.slice (some ⟨g2, 0, none⟩) u c6) u vs2)
    (s1 : SR wr wv wl vs1 (replR ch q wl U i)) (s2 : SR wr wv wl vs2 (replR ch q wl D i)) (hU : U.length = u) (hD : D.length = u) (hi : i < u) (hn : inTo ch i q = false) :
    ((wr.setCell ⟨g1, i, none⟩ wv).setCell ⟨g2, i, none⟩ wv).ownsRow b1 22 1 (.slice (some ⟨g1, 0, none⟩) u c5) u (vs1.set i wv) ∧ SR ((wr.setCell ⟨g1, i, none⟩ wv).setCell ⟨g2, i, none⟩ wv) wv wl (vs1.set i wv) (replR ch q wl U (i + 1)) ∧
    ((wr.setCell ⟨g1, i, none⟩ wv).setCell ⟨g2, i, none⟩ wv).ownsRow b2 22 1 (.slice (some ⟨g2, 0, none⟩) u c6) u (vs2.set i wv) ∧ SR ((wr.setCell ⟨g1, i, none⟩ wv).setCell ⟨g2, i, none⟩ wv) wv wl (vs2.set i wv) (replR ch q wl D (i + 1)) := by
  obtain ⟨k1, hk1, _⟩ := own_blk h1
  obtain ⟨k2, hk2, _⟩ := own_blk h2
  have hu : Upd (fun k => k = g1 ∨ k = g2) wr ((wr.setCell ⟨g1, i, none⟩ wv).setCell ⟨g2, i, none⟩ wv) := ((Upd.refl _ wr).setCell (p := ⟨g1, i, none⟩) (.inl (.inl rfl)) wv).setCell (p := ⟨g2, i, none⟩) (.inl (.inr rfl)) wv
  refine ⟨?_, (SR.set s1 (by omega) hn).keep hu hk1 hk2, ?_, (SR.set s2 (by omega) hn).keep hu hk1 hk2⟩
  · have o1 := (h1.stored i wv).1
    exact own_upd o1 ((Upd.refl (fun k => k = g2) _).setCell (p := ⟨g2, i, none⟩) (.inl rfl) wv) (fun k hk _ _ hb => by
      subst hk
      injection hb with hb
      exact hne hb)
  · have o2 := own_upd h2 ((Upd.refl (fun k => k = g1) _).setCell (p := ⟨g1, i, none⟩) (.inl rfl) wv) (fun k hk _ _ hb => by
      subst hk
      injection hb with hb
      exact hne hb.symm)
    exact (o2.stored i wv).1

set_option maxRecDepth 100000 in
set_option maxHeartbeats 6400000 in
theorem expertOthers_walk {w : World} {B : Nat} {A0 A1 A2 A3 A9 : Option Addr} {L0 c0 u c1 dd c2 n c3 n9 c9 : Nat} {router xs wl : List Int} {U D : List (List Int)} {hidden k : Int} (hr : RdI w B .i8 (.slice A0 L0 c0) router) (hu : RdF w B (.slice A1 u c1) U) (hd : RdF w B (.slice A2 dd c2) D) (hx : RdI w B .i64 (.slice A3 n c3) xs) (hwl : RdI w B .i8 (.slice A9 n9 c9) wl) (hw : Wt router) (hbig : L0 ≤ 4294967296) (hwu : WtR U) (hwd : WtR D) (hww : Wt wl) (hwb : wl.length ≤ 4294967296) (hbu : u ≤ 4294967296) (hbd : dd ≤ 4294967296) :
    Calls Try.prog 7 #[.agg #[.slice A0 L0 c0, .slice A1 u c1, .slice A2 dd c2, .int .i64 hidden, .int .i64 k, .slice A3 n c3], .slice A9 n9 c9] w (TruePost w) := by
  have HC : Hid (CaseAt (w.alloc (.cells #[.slice A0 L0 c0, .slice A1 u c1, .slice A2 dd c2, .int .i64 hidden, .int .i64 k, .slice A3 n c3] 44)) w.heap.size (.slice A0 L0 c0) (.slice A1 u c1) (.slice A2 dd c2) (.int .i64 hidden) (.int .i64 k) (.slice A3 n c3)) := Blk.new w _ _
  have HB0 : Hid (Below w.heap.size w (w.alloc (.cells #[.slice A0 L0 c0, .slice A1 u c1, .slice A2 dd c2, .int .i64 hidden, .int .i64 k, .slice A3 n c3] 44))) := below_alloc w _
  have hul := (rdr_len hu.r).1
  have hdl := (rdr_len hd.r).1
  have hum := (rdr_len hu.r).2.2
  unfold maxLen at hum
  have HRr := hid_ hr
  have HUu := hid_ hu
  have HDd := hid_ hd
  have HXx := hid_ hx
  have HWL := hid_ hwl
  have HW := hid_ hw
  have HWW := hid_ hww
  have HWB := hid_ hwb
  have HWU := hid_ hwu
  have HWD := hid_ hwd
  have HUL := hid_ hul
  have HDL := hid_ hdl
  have HBG := hid_ hbig
  obtain ⟨gv, hgv⟩ : ∃ gv, greatB u dd L0 = gv := ⟨_, rfl⟩
  have hG := hid_ (fun w => great_any (A0 := A0) (A1 := A1) (A2 := A2) (A3 := A3) (L0 := L0) (c0 := c0) (u := u) (c1 := c1) (dd := dd) (c2 := c2) (n := n) (c3 := c3) (hidden := hidden) (k := k) w)
  rw [hgv] at hG
  clear hr hu hd hx hwl hw hwu hwd hww hwb hul hdl hgv hbig
  go_enter Try.func7, Try.ntmps7
  go_upto_region 1 with fail
  generalize (w.alloc (.cells #[.slice A0 L0 c0, .slice A1 u c1, .slice A2 dd c2, .int .i64 hidden, .int .i64 k, .slice A3 n c3] 44)) = w0 at *
  cases gv with
  | true =>
    go_wp2_with (first
      | ((go_at_call 30); (refine (works16_any _).mono ?_); (rintro e w1 ⟨rfl, hb⟩); (have HC1 := hid_ (HC.out.below hb)); (obtain ⟨d0, d1, d2, d3, d4, d5⟩ := HC1.out.cells); (have HB1 := hid_ (below_comp HB0.out hb)); (clear hb))
      | ((go_at_call 23); (refine (hG.out _).mono ?_); (rintro e w2 ⟨rfl, hb⟩); (have HC2 := hid_ (HC1.out.below hb)); (clear d0 d1 d2 d3 d4 d5); (obtain ⟨d0, d1, d2, d3, d4, d5⟩ := HC2.out.cells); (have HB2 := hid_ (below_comp HB1.out hb)); (clear hb)))
    go_ret
    exact ⟨rfl, HB2.out⟩
  | false =>
    by_cases h1 : u < 2
    · have h1' : (u : Int) < 2 := by omega
      go_wp2_with (first
        | ((go_at_call 30); (refine (works16_any _).mono ?_); (rintro e w1 ⟨rfl, hb⟩); (have HC1 := hid_ (HC.out.below hb)); (obtain ⟨d0, d1, d2, d3, d4, d5⟩ := HC1.out.cells); (have HB1 := hid_ (below_comp HB0.out hb)); (clear hb))
        | ((go_at_call 23); (refine (hG.out _).mono ?_); (rintro e w2 ⟨rfl, hb⟩); (have HC2 := hid_ (HC1.out.below hb)); (clear d0 d1 d2 d3 d4 d5); (obtain ⟨d0, d1, d2, d3, d4, d5⟩ := HC2.out.cells); (have HB2 := hid_ (below_comp HB1.out hb)); (clear hb)))
      go_ret
      exact ⟨rfl, HB2.out⟩
    have h1' : ¬ (u : Int) < 2 := by omega
    have HU1 : Hid (¬ U.length = 1) := by show ¬ _; rw [HUL.out]; omega
    have HU0 : Hid (¬ U.length = 0) := by show ¬ _; rw [HUL.out]; omega
    by_cases hx0 : routeE router xs u k = 0
    · by_cases h2 : u ≠ dd
      · have h2' : ((u : Int) != (dd : Int)) = true := by rw [bne_iff_ne]; omega
        have HE : Hid (mixE router U D hidden k xs = 21) := by show _ = _; rw [mixE, if_pos (.inr (by rw [HUL.out, HDL.out]; exact h2))]
        have HX0 := hid_ hx0
        clear hx0 h2
        go_wp2_with (first
          | ((go_at_call 30); (refine (works16_any _).mono ?_); (rintro e w1 ⟨rfl, hb⟩); (have HC1 := hid_ (HC.out.below hb)); (obtain ⟨d0, d1, d2, d3, d4, d5⟩ := HC1.out.cells); (have HB1 := hid_ (below_comp HB0.out hb)); (clear hb))
          | ((go_at_call 23); (refine (hG.out _).mono ?_); (rintro e w2 ⟨rfl, hb⟩); (have HC2 := hid_ (HC1.out.below hb)); (clear d0 d1 d2 d3 d4 d5); (obtain ⟨d0, d1, d2, d3, d4, d5⟩ := HC2.out.cells); (have HB2 := hid_ (below_comp HB1.out hb)); (clear hb))
          | ((go_at_call 27); (refine (route_ok_any HX0.out (rdi_below HRr.out HB2.out) (rdi_below HXx.out HB2.out) HW.out HBG.out).mono ?_); (rintro e w3 ⟨D1, e1, D2, e2, rfl, _, _, hb, _, _⟩); (have HC3 := hid_ (HC2.out.below hb)); (clear d0 d1 d2 d3 d4 d5); (obtain ⟨d0, d1, d2, d3, d4, d5⟩ := HC3.out.cells); (have HB3 := hid_ (below_comp HB2.out hb)); (clear hb))
          | ((go_at_call 24); (refine (mix_any (rdi_below HRr.out HB3.out) (rdi_below HXx.out HB3.out) HW.out HBG.out (rdr_below HUu.out.r HB3.out) (rdr_below HDd.out.r HB3.out) HWU.out HWD.out).mono ?_); (rintro e w4 h4); (rw [HE.out, MixPost, if_neg (by decide)] at h4); (obtain ⟨rfl, hb⟩ := h4); (have HC4 := hid_ (HC3.out.below hb)); (clear d0 d1 d2 d3 d4 d5); (obtain ⟨d0, d1, d2, d3, d4, d5⟩ := HC4.out.cells); (have HB4 := hid_ (below_comp HB3.out hb)); (clear hb)))
        go_ret
        exact ⟨rfl, HB4.out⟩
      · obtain rfl : u = dd := by omega
        clear h2
        have HX0 := hid_ hx0
        clear hx0
        have hE2 := HX0.out
        unfold routeE at hE2
        have hkr : 1 ≤ k ∧ k ≤ (u : Int) := by
          split at hE2
          · cases hE2
          · omega
        have hml : (matL router xs u).length = u := matL_length _ _ _
        have hcl : clamp k (matL router xs u).length = k.toNat := by rw [hml]; unfold clamp; omega
        have HAT : Hid (∀ t, t < k.toNat → ∃ z : Nat, (routeC router xs u k).getD t 0 = (z : Int) ∧ z < u) := fun t ht => by
          have h1 := chosenV_at (xs := matL router xs u) (k := k) (i := t) (by rw [hcl]; exact ht)
          rw [hml] at h1
          exact ⟨((routeC router xs u k).getD t 0).toNat, by unfold routeC; omega, by unfold routeC; omega⟩
        have HLC : Hid ((routeC router xs u k).length = k.toNat) := by show _ = _; rw [routeC, chosenV_length, hcl]
        have HOT : Hid (mixE router (replR (routeC router xs u k) k.toNat wl U u) (replR (routeC router xs u k) k.toNat wl D u) hidden k xs = mixE router U D hidden k xs ∧ mixL router (replR (routeC router xs u k) k.toNat wl U u) (replR (routeC router xs u k) k.toNat wl D u) hidden k xs = mixL router U D hidden k xs) := by
          refine mix_others (by rw [HUL.out]; omega) (replR_length ..) (replR_length ..) (fun t ht => ?_)
          obtain ⟨z, hz, hzu⟩ := HAT.out t ht
          rw [HUL.out]
          refine mixOne_same ?_ ?_
          · have := replR_chosen (ch := routeC router xs u k) (wl := wl) (U := U) ht hz (by rw [HUL.out]; exact hzu)
            rw [HUL.out] at this
            rw [hz]
            exact this
          · have := replR_chosen (ch := routeC router xs u k) (wl := wl) (U := D) ht hz (by rw [HDL.out]; exact hzu)
            rw [HDL.out] at this
            rw [hz]
            exact this
        have hRo := fun w5 (hb : Below w.heap.size w w5) => route_ok_any HX0.out (rdi_below HRr.out hb) (rdi_below HXx.out hb) HW.out HBG.out
        have HRO := hid_ hRo
        clear hE2 hml hcl hRo HX0
        generalize routeC router xs u k = ch at *
        generalize routeP router xs u k = sh at *
        obtain ⟨q, hq⟩ : ∃ q, k.toNat = q := ⟨_, rfl⟩
        rw [hq] at HAT HLC HOT HRO
        have hqb : q ≤ 4294967296 := by omega
        clear hq hkr
        obtain ⟨x, hx⟩ : ∃ x, mixE router U D hidden k xs = x := ⟨_, rfl⟩
        obtain ⟨l, hl⟩ : ∃ l, mixL router U D hidden k xs = l := ⟨_, rfl⟩
        rw [hx, hl] at HOT
        have HMX := hid_ (fun w5 (hb : Below w.heap.size w w5) => mix_any (hidden := hidden) (k := k) (rdi_below HRr.out hb) (rdi_below HXx.out hb) HW.out HBG.out (rdr_below HUu.out.r hb) (rdr_below HDd.out.r hb) HWU.out HWD.out)
        rw [hx, hl] at HMX
        clear hx hl
        go_wp2_with (first
          | ((go_at_call 30); (refine (works16_any _).mono ?_); (rintro e w1 ⟨rfl, hb⟩); (have HC1 := hid_ (HC.out.below hb)); (obtain ⟨d0, d1, d2, d3, d4, d5⟩ := HC1.out.cells); (have HB1 := hid_ (below_comp HB0.out hb)); (clear hb))
          | ((go_at_call 23); (refine (hG.out _).mono ?_); (rintro e w2 ⟨rfl, hb⟩); (have HC2 := hid_ (HC1.out.below hb)); (clear d0 d1 d2 d3 d4 d5); (obtain ⟨d0, d1, d2, d3, d4, d5⟩ := HC2.out.cells); (have HB2 := hid_ (below_comp HB1.out hb)); (clear hb))
          | ((go_at_call 27); (refine (HRO.out _ HB2.out).mono ?_); (rintro e w3 ⟨D1, e1, D2, e2, rfl, hch, _, hb, _, _⟩); (have HCH := hid_ hch); (have HC3 := hid_ (HC2.out.below hb)); (clear d0 d1 d2 d3 d4 d5); (obtain ⟨d0, d1, d2, d3, d4, d5⟩ := HC3.out.cells); (have HB3 := hid_ (below_comp HB2.out hb)); (clear hb hch))
          | ((go_at_call 24); (refine (HMX.out _ HB3.out).mono ?_); (rintro e w4 h4); (obtain ⟨A4, n4, c4, rfl, hr4, hb⟩ := mixRow_of h4); (have HR4 := hid_ hr4); (have HCH4 := hid_ (rdi_below HCH.out hb)); (have HC4 := hid_ (HC3.out.below hb)); (clear d0 d1 d2 d3 d4 d5); (obtain ⟨d0, d1, d2, d3, d4, d5⟩ := HC4.out.cells); (have HB4 := hid_ (below_comp HB3.out hb)); (clear h4 hb hr4)))
        clear HRO HMX hG HC HC1 HC2 HC3 HB0 HB1 HB2 HB3 HCH
        have HBD : Hid (Below w4.heap.size w4 (w4.drewN 1)) := below_drawn ⟨1, rfl⟩
        have HO1 := hid_ (own_any (rdf_below (rdf_below HUu.out HB4.out) HBD.out) hbu (fun i hi => (HWU.out i hi).2))
        have HO2 := hid_ (fun w5 (hb : Below w4.heap.size w4 w5) => own_any (rdf_below (rdf_below HDd.out HB4.out) hb) hbd (fun i hi => (HWD.out i hi).2))
        go_region_held3 (fun w' => w'.cell? ⟨w.heap.size, 1, none⟩ = some (.slice A1 u c1) ∧ w'.cell? ⟨w.heap.size, 2, none⟩ = some (.slice A2 u c2)) (go_keep) ((first | (go_at_call 25; (refine (HO2.out _ HB5.out).mono ?_); (rintro e w6 ⟨A6, c6, rfl, hO6, hb6⟩); (have k1 := cell_below (w := w4) (w' := w6) d1 (below_comp HB5.out hb6)); (have k2 := cell_below (w := w4) (w' := w6) d2 (below_comp HB5.out hb6)); (have HO6 := hid_ hO6); (have HO56 := hid_ (HO5.out.below (Upd.of_below hb6))); (have HS6 := hid_ hb6); (have HB6 := hid_ (below_comp HB5.out hb6)); (clear hO6 hb6)) | (go_at_call 25; (refine (HO1.out).mono ?_); (rintro e w5 ⟨A5, c5, rfl, hO5, hb5⟩); (have hb5 := below_comp HBD.out hb5); (have k1 := cell_below (w := w4) (w' := w5) d1 hb5); (have k2 := cell_below (w := w4) (w' := w5) d2 hb5); (have HO5 := hid_ hO5); (have HB5 := hid_ hb5); (clear hO5 hb5 HO1))))
        go_wp2_with fail
        obtain ⟨vs1, p1, p2⟩ := HO56.out
        obtain ⟨vs2, p3, p4⟩ := HO6.out
        have q2 := SR.of (wv := .slice A9 n9 c9) (wl := wl) p2
        have q4 := SR.of (wv := .slice A9 n9 c9) (wl := wl) p4
        rw [HUL.out] at p1
        rw [HDL.out] at p3
        obtain ⟨g1, rfl, hg1⟩ := own_form p1 (by omega)
        obtain ⟨g2, rfl, hg2⟩ := own_form p3 (by omega)
        obtain ⟨_, r1, _⟩ := HO5.out
        obtain ⟨_, r2, _⟩ := own_blk r1
        have hgl : g1 < w5.heap.size := r2.lt
        have hgd : g1 ≠ g2 := by omega
        have hg1' : w4.heap.size ≤ g1 := hg1
        have hg2' : w4.heap.size ≤ g2 := Nat.le_trans HB5.out.size hg2
        have P1 := hid_ p1
        have P3 := hid_ p3
        have Q2 := hid_ q2
        have Q4 := hid_ q4
        have HU6 : Hid (Upd (fun _ => False) w4 w6) := Upd.of_below HB6.out
        clear p1 p2 p3 p4 q2 q4 r1 r2 HO5 HO56 HO6 HO2 hg1 hg2
        go_loopw [12] (fun iv wr => ∃ (i : Nat) (vs1 vs2 : List Value), i ≤ u ∧ iv = .int .i64 i ∧ Hid (wr.ownsRow w4.heap.size 22 1 (.slice (some ⟨g1, 0, none⟩) u c5) u vs1) ∧ Hid (SR wr (.slice A9 n9 c9) wl vs1 (replR ch q wl U i)) ∧ Hid (wr.ownsRow w5.heap.size 22 1 (.slice (some ⟨g2, 0, none⟩) u c6) u vs2) ∧ Hid (SR wr (.slice A9 n9 c9) wl vs2 (replR ch q wl D i)) ∧ Hid (Upd (fun _ => False) w4 wr)) (fun iv _ => u - (intOf iv).toNat)
        case atStart => exact ⟨0, vs1, vs2, Nat.zero_le _, rfl, P1, hid_ (by rw [replR_zero]; exact Q2.out), P3, hid_ (by rw [replR_zero]; exact Q4.out), HU6⟩
        case round =>
          obtain ⟨i, vs3, vs4, hi, rfl, H1, S1, H2, S2, HU⟩ := hrel
          by_cases hlt : i < u
          · have hlt' : (i : Int) < (u : Int) := by omega
            have HR9 := hid_ (rdi_below HCH4.out HU.out.toB)
            go_wp2_with fail
            go_loop [13, 14] (fun bv tv => ∃ t : Nat, t ≤ q ∧ tv = .int .i64 t ∧ bv = .bool (inTo ch i t)) (fun _ tv => q - (intOf tv).toNat)
            case atStart => exact ⟨0, Nat.zero_le _, rfl, rfl⟩
            case round =>
              obtain ⟨t, ht, rfl, rfl⟩ := hrel
              by_cases hlq : t < q
              · have hlq' : (t : Int) < (q : Int) := by omega
                obtain ⟨b, o, rfl, y1⟩ := rdi_cell HR9.out (j := t) (by rw [HLC.out]; exact hlq)
                have HIN : Hid (inTo ch i (t + 1) = (inTo ch i t || (ch.getD t 0 == (i : Int)))) := rfl
                generalize ch.getD t 0 = cv at *
                cases hb : inTo ch i t with
                | true =>
                  rw [hb] at HIN
                  clear hb
                  go_wp2_with fail
                  go_round
                  case rel => exact ⟨t + 1, by omega, by go_num, by rw [HIN.out]; rfl⟩
                  case measure => simp [intOf]; omega
                | false =>
                  rw [hb] at HIN
                  clear hb
                  go_wp2_with fail
                  go_round
                  case rel => exact ⟨t + 1, by omega, by go_num, by rw [HIN.out]; simp⟩
                  case measure => simp [intOf]; omega
              · obtain rfl : t = q := by omega
                cases hb : inTo ch i t with
                | true =>
                  have HB := hid_ hb
                  clear hb
                  go_wp2_with fail
                  go_roundw
                  case rel => exact ⟨i + 1, vs3, vs4, by omega, by go_num, H1, hid_ (by rw [replR_skip HB.out]; exact S1.out), H2, hid_ (by rw [replR_skip HB.out]; exact S2.out), HU⟩
                  case measure => simp [intOf]; omega
                | false =>
                  have HB := hid_ hb
                  clear hb
                  have hv1 : i < vs3.length := by rw [S1.out.1, replR_length, HUL.out]; exact hlt
                  have hv2 : i < vs4.length := by rw [S2.out.1, replR_length, HDL.out]; exact hlt
                  have y1 := H1.out.cellAt i (by omega)
                  have y2 := H1.out.frozenAt i
                  have hmid := own_upd H2.out ((Upd.refl (fun k => k = g1) wr).setCell (p := ⟨g1, i, none⟩) (.inl rfl) (.slice A9 n9 c9)) (fun k hk _ _ hb => by subst hk; injection hb with hb; exact hgd hb.symm)
                  have y3 := hmid.cellAt i (by omega)
                  have y4 := hmid.frozenAt i
                  rw [List.getElem?_eq_getElem hv1] at y1
                  rw [List.getElem?_eq_getElem hv2] at y3
                  have HST := hid_ (store_both (wv := .slice A9 n9 c9) (ch := ch) (q := t) hgd H1.out H2.out S1.out S2.out HUL.out HDL.out hlt HB.out)
                  clear hmid
                  generalize vs3[i] = z3 at *
                  generalize vs4[i] = z4 at *
                  go_wp2_with fail
                  go_roundw
                  case rel => exact ⟨i + 1, _, _, by omega, by go_num, hid_ HST.out.1, hid_ HST.out.2.1, hid_ HST.out.2.2.1, hid_ HST.out.2.2.2, hid_ ((HU.out.setCell (p := ⟨g1, i, none⟩) (.inr hg1') _).setCell (p := ⟨g2, i, none⟩) (.inr hg2') _)⟩
                  case measure => simp [intOf]; omega
          · obtain rfl : i = u := by omega
            clear hlt
            have hwb := below_comp HB4.out HU.out.toB
            have hww := rdi_below HWL.out hwb
            have hWr : ∀ (L : List (List Int)), L.length = i → WtR L → WtR (replR ch q wl L i) := fun L hL hW j hj => by
              rw [replR_length] at hj
              rw [replR_at hj]
              split
              · exact ⟨HWW.out, HWB.out⟩
              · exact hW j hj
            have hM := mix_any (hidden := hidden) (k := k) (rdi_below HRr.out hwb) (rdi_below HXx.out hwb) HW.out HBG.out (S1.out.r H1.out hww) (S2.out.r H2.out hww) (hWr U HUL.out HWU.out) (hWr D HDL.out HWD.out)
            rw [HOT.out.1, HOT.out.2] at hM
            have HM := hid_ hM
            have HC9 := hid_ (HC4.out.below HU.out.toB)
            have HR49 := hid_ (rdi_below HR4.out HU.out.toB)
            have HB9 := hid_ hwb
            clear hM hww hwb hWr d0 d1 d2 d3 d4 d5
            obtain ⟨d0, d1, d2, d3, d4, d5⟩ := HC9.out.cells
            go_wp2_with (first
              | ((go_at_call 24); (refine HM.out.mono ?_); (rintro e w7 h7); (obtain ⟨A7, n7, c7, rfl, hr7, hb7⟩ := mixRow_of h7); (have HR7 := hid_ hr7); (have HR47 := hid_ (rdi_below HR49.out hb7)); (have HB7 := hid_ (below_comp HB9.out hb7)); (clear h7 hr7 hb7))
              | ((go_at_call 15); (refine (same4q HR47.out HR7.out).mono ?_); (rintro e w8 ⟨rfl, hb8⟩); (have HB8 := hid_ (below_comp HB7.out hb8)); (clear hb8)))
            go_ret
            exact ⟨rfl, HB8.out⟩
    · obtain ⟨x, hxx⟩ : ∃ x, routeE router xs u k = x := ⟨_, rfl⟩
      rw [hxx] at hx0
      have hx1 : (x != 0) = true := by rw [bne_iff_ne]; exact hx0
      obtain ⟨y, hy⟩ : ∃ y, mixE router U D hidden k xs = y := ⟨_, rfl⟩
      have hy0 : y ≠ 0 := by
        rw [← hy, mixE]
        split
        · decide
        · rw [if_neg HU1.out, HUL.out, hxx, if_pos hx0]
          exact hx0
      have hy1 : (y != 0) = true := by rw [bne_iff_ne]; exact hy0
      have HXX := hid_ hxx
      have HX0 := hid_ hx0
      have HY := hid_ hy
      have HY0 := hid_ hy0
      clear hxx hx0 hy hy0
      go_wp2_with (first
        | ((go_at_call 30); (refine (works16_any _).mono ?_); (rintro e w1 ⟨rfl, hb⟩); (have HC1 := hid_ (HC.out.below hb)); (obtain ⟨d0, d1, d2, d3, d4, d5⟩ := HC1.out.cells); (have HB1 := hid_ (below_comp HB0.out hb)); (clear hb))
        | ((go_at_call 23); (refine (hG.out _).mono ?_); (rintro e w2 ⟨rfl, hb⟩); (have HC2 := hid_ (HC1.out.below hb)); (clear d0 d1 d2 d3 d4 d5); (obtain ⟨d0, d1, d2, d3, d4, d5⟩ := HC2.out.cells); (have HB2 := hid_ (below_comp HB1.out hb)); (clear hb))
        | ((go_at_call 27); (refine (route_no_any HXX.out HX0.out (rdi_below HRr.out HB2.out) (rdi_below HXx.out HB2.out) HW.out HBG.out).mono ?_); (rintro e w3 ⟨rfl, hb⟩); (have HC3 := hid_ (HC2.out.below hb)); (clear d0 d1 d2 d3 d4 d5); (obtain ⟨d0, d1, d2, d3, d4, d5⟩ := HC3.out.cells); (have HB3 := hid_ (below_comp HB2.out hb)); (clear hb))
        | ((go_at_call 24); (refine (mix_any (rdi_below HRr.out HB3.out) (rdi_below HXx.out HB3.out) HW.out HBG.out (rdr_below HUu.out.r HB3.out) (rdr_below HDd.out.r HB3.out) HWU.out HWD.out).mono ?_); (rintro e w4 h4); (rw [HY.out, MixPost, if_neg HY0.out] at h4); (obtain ⟨rfl, hb⟩ := h4); (have HC4 := hid_ (HC3.out.below hb)); (clear d0 d1 d2 d3 d4 d5); (obtain ⟨d0, d1, d2, d3, d4, d5⟩ := HC4.out.cells); (have HB4 := hid_ (below_comp HB3.out hb)); (clear hb)))
      go_ret
      exact ⟨rfl, HB4.out⟩

set_option maxRecDepth 100000 in
theorem expertOthers_args {H : Type} {enc : TypeId × Value → H} {W : World} {base : Nat} {v0 v1 : Value} {d0 d1 : DataW H} {p0 p1 : List MemPlace} {gs : List (DataW H)}
    (h0 : DataW.Trod enc Try.prog W 0 (fun _ => true) true 44 v0 d0 p0) (k0 : Value.okWide Try.prog W .any base 44 v0)
    (h1 : DataW.Trod enc Try.prog W 0 (fun _ => true) true 22 v1 d1 p1) (k1 : Value.okWide Try.prog W .any base 22 v1)
    (hk : Rows.uptoSmall H ([d0, d1] ++ gs) = true) :
    Calls Try.prog 7 #[v0, v1] W (TruePost W) := by
  have hb := bulk_all hk
  have hb0 := bulk_mem (d := d0) (l := [d0, d1] ++ gs) (by simp)
  have hb1 := bulk_mem (d := d1) (l := [d0, d1] ++ gs) (by simp)
  obtain ⟨A0, A1, A2, A3, L0, c0, u, c1, dd, c2, n, c3, hidden, k, router, xs, U, D, rfl, hr, _, w0, hu, _, hd, _, wu, wd, hx, _, l0, l1, l2, l3⟩ := case_open h0 k0
  obtain ⟨wl, hwl, _, w9, l9⟩ := nums_open Try.underlying22 Try.underlying87 (by kernel_rfl) h1 k1
  obtain ⟨A9, c9, rfl, _⟩ := hwl.form
  have e1 := (rdi_len hr).1
  have e2 := (rdr_len hu.r).1
  have e3 := (rdr_len hd.r).1
  exact expertOthers_walk hr hu hd hx hwl (wf_i8 w0) (by omega) (fun i hi => ⟨wf_i8 (wu i hi).1, by have := (wu i hi).2; omega⟩) (fun i hi => ⟨wf_i8 (wd i hi).1, by have := (wd i hi).2; omega⟩) (wf_i8 w9) (by omega) (by omega) (by omega)
end Go.Proofs.Ytlpeijaeiioimaa
