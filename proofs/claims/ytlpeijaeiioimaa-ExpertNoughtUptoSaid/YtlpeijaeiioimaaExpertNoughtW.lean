/- ExpertNought walked: it returns true. Conditions: what comes in is of bulk at most 1048576. -/
import Derived.Test.YtlpeijaeiioimaaNoughtLaw
import Derived.Test.YtlpeijaeiioimaaExpertFirstW
namespace Go.Proofs.Ytlpeijaeiioimaa
open Go.RowKit Go.ChangeShapes Go.WideShapes Go.ChangeAt

theorem Try.infoR8_ : (Try.prog.info? 22).map (fun i => (i.zero, i.size, i.bytes)) = some (some (.slice none 0 0), 1, 24) := by kernel_rfl
/-- a row of noughts -/
def zc (n : Nat) : Array Value := ((List.replicate n (0 : Int)).map (Value.int .i8)).toArray
theorem make_i8s (w : World) (n : Nat) (hn : n ≤ 4294967296) : (Instr.makeSlice 22 (.int .i64 (n : Int)) (.int .i64 (n : Int))).run Try.prog w = .ok (.slice (some ⟨w.heap.size, 0, none⟩) n n) (w.alloc (.cells (zc n) 87)) := by
  obtain ⟨i0, hi0, hz0, hz1, hz2⟩ := info_parts Try.infoI8_
  have h := run_make (P := Try.prog) w 22 87 i0 _ Try.underlying22 hi0 hz0 .i64 .i64 (n : Int) (n : Int) (by omega) (by omega) (by rw [hz2]; omega) (by omega)
  have e : madeCells (Value.cells (.int .i8 0)) ((n : Int).toNat * i0.size) = zc n := by
    rw [hz1, Nat.mul_one, Int.toNat_natCast]
    apply Array.ext
    · simp [madeCells, zc]
    · intro j h1 h2
      simp [madeCells, zc, Value.cells, Nat.mod_one]
  rw [h, e, Int.toNat_natCast]
def ZRows (w : World) (vs : List Value) (D : List (List Int)) (i : Nat) : Prop :=
  vs.length = i ∧ ∀ j, j < i → ∃ b, vs.getD j (.slice none 0 0) = .slice (some ⟨b, 0, none⟩) (D.getD j []).length (D.getD j []).length ∧ Blk w b 87 (zc (D.getD j []).length)
theorem zrows_rdr {w : World} {A : Option Addr} {n c base : Nat} {vs : List Value} {D : List (List Int)} (hO : w.ownsRow base 22 1 (.slice A n c) n vs) (hz : ZRows w vs D n) (hn : D.length = n) (hm : ∀ j, j < n → (D.getD j []).length ≤ maxLen) : RdR w w.heap.size (.slice A n c) (zerosOf D) := by
  refine ⟨vs, Rd.of_own hO, by rw [hz.1, zerosOf_length, hn], fun i hi => ⟨w.heap.size, ?_⟩⟩
  rw [zerosOf_length, hn] at hi
  obtain ⟨b, h1, h2⟩ := hz.2 i hi
  rw [h1, zerosOf_at D (by omega)]
  have h := blk_rdi (k := .i8) (l := List.replicate (D.getD i []).length 0) h2 (by rw [List.length_replicate]; exact hm i hi)
  rw [List.length_replicate] at h
  exact h
theorem own_ne_ty {w : World} {base n b : Nat} {e t : TypeId} {v : Value} {xs : List Value} {cs : Array Value} (h : w.ownsRow base e 1 v n xs) (hb : Blk w b t cs) (hne : t ≠ e) : some b ≠ v.ownBlock := by
  intro hk
  rcases h.2 with ⟨h0, _⟩ | ⟨g, cap, cur, hv, _, hblk, _⟩
  · rw [h0] at hk
    cases hk
  · rw [hv] at hk
    have hg : b = g := by injection hk
    exact Blk.ne_ hb hblk hne hg
theorem zrows_next {wr w5 : World} {i cc m2 : Nat} {Ai : Option Addr} {vs : List Value} {D : List (List Int)} {base : Nat} (HO : wr.ownsRow base 22 1 (.slice Ai i cc) i vs) (HZ : ZRows wr vs D i) (hm : (D.getD i []).length = m2)
    (hg5 : ((wr.alloc (.cells (zc m2) 87)).alloc (.cells #[.slice (some ⟨wr.heap.size, 0, none⟩) m2 m2] 22)).grownBy w5 (Value.slice Ai i cc).ownBlock) : ZRows w5 (vs ++ [.slice (some ⟨wr.heap.size, 0, none⟩) m2 m2]) D (i + 1) := by
  have hu : Upd (fun k => some k = (Value.slice Ai i cc).ownBlock) ((wr.alloc (.cells (zc m2) 87)).alloc (.cells #[.slice (some ⟨wr.heap.size, 0, none⟩) m2 m2] 22)) w5 := (Upd.refl _ _).grown hg5 (fun k hk => .inl hk.symm)
  have keep : ∀ b cs, Blk (wr.alloc (.cells (zc m2) 87)) b 87 cs → Blk w5 b 87 cs := fun b cs h => by
    have h9 := h.alloc (.cells #[.slice (some ⟨wr.heap.size, 0, none⟩) m2 m2] 22)
    exact Blk.upd h9 hu (own_ne_ty ((HO.alloc _).alloc _) h9 (by decide))
  refine ⟨by rw [List.length_append, HZ.1]; rfl, fun j hj => ?_⟩
  by_cases h : j < i
  · obtain ⟨b, h1, h2⟩ := HZ.2 j h
    refine ⟨b, ?_, keep b _ (h2.alloc _)⟩
    rw [List.getD_eq_getElem?_getD, List.getElem?_append_left (by rw [HZ.1]; exact h), ← List.getD_eq_getElem?_getD, h1]
  · obtain rfl : j = i := by omega
    refine ⟨wr.heap.size, ?_, ?_⟩
    · rw [List.getD_eq_getElem?_getD, List.getElem?_append_right (by rw [HZ.1]; exact Nat.le_refl _), HZ.1, Nat.sub_self, hm]
      rfl
    · rw [hm]
      exact keep _ _ (Blk.new wr _ _)

set_option maxRecDepth 100000 in
set_option maxHeartbeats 3200000 in
theorem expertNought_walk {w : World} {B : Nat} {A0 A1 A2 A3 : Option Addr} {L0 c0 u c1 dd c2 n c3 : Nat} {router xs : List Int} {U D : List (List Int)} {hidden k : Int} (hr : RdI w B .i8 (.slice A0 L0 c0) router) (hu : RdR w B (.slice A1 u c1) U) (hd : RdR w B (.slice A2 dd c2) D) (hx : RdI w B .i64 (.slice A3 n c3) xs) (hw : Wt router) (hbig : L0 ≤ 4294967296) (hwu : WtR U) (hwd : WtR D) (hbd : dd ≤ 4294967296) :
    Calls Try.prog 8 #[.agg #[.slice A0 L0 c0, .slice A1 u c1, .slice A2 dd c2, .int .i64 hidden, .int .i64 k, .slice A3 n c3]] w (TruePost w) := by
  obtain ⟨i0, hi0, hz0, hz1, hz2⟩ := info_parts Try.infoR8_
  have HC : Hid (CaseAt (w.alloc (.cells #[.slice A0 L0 c0, .slice A1 u c1, .slice A2 dd c2, .int .i64 hidden, .int .i64 k, .slice A3 n c3] 44)) w.heap.size (.slice A0 L0 c0) (.slice A1 u c1) (.slice A2 dd c2) (.int .i64 hidden) (.int .i64 k) (.slice A3 n c3)) := Blk.new w _ _
  have HB0 : Hid (Below w.heap.size w (w.alloc (.cells #[.slice A0 L0 c0, .slice A1 u c1, .slice A2 dd c2, .int .i64 hidden, .int .i64 k, .slice A3 n c3] 44))) := below_alloc w _
  have hdl := (rdr_len hd).1
  have hxl := (rdi_len hx).1
  have hnm := (rdi_len hx).2.2
  unfold maxLen at hnm
  have HRr := hid_ hr
  have HUu := hid_ hu
  have HDd := hid_ hd
  have HXx := hid_ hx
  have HW := hid_ hw
  have HWU := hid_ hwu
  have HWD := hid_ hwd
  have HDL := hid_ hdl
  have HXL := hid_ hxl
  obtain ⟨gv, hgv⟩ : ∃ gv, greatB u dd L0 = gv := ⟨_, rfl⟩
  have hG := hid_ (fun w => great_any (A0 := A0) (A1 := A1) (A2 := A2) (A3 := A3) (L0 := L0) (c0 := c0) (u := u) (c1 := c1) (dd := dd) (c2 := c2) (n := n) (c3 := c3) (hidden := hidden) (k := k) w)
  rw [hgv] at hG
  clear hr hu hd hx hw hwu hwd hdl hxl hgv
  go_enter Try.func8, Try.ntmps8
  go_upto_region 1 with fail
  generalize (w.alloc (.cells #[.slice A0 L0 c0, .slice A1 u c1, .slice A2 dd c2, .int .i64 hidden, .int .i64 k, .slice A3 n c3] 44)) = w0 at *
  cases gv with
  | true =>
    go_wp2_with (first
      | ((go_at_call 30); (refine (works16_any _).mono ?_); (rintro e w1 ⟨rfl, hb⟩); (have HC1 := hid_ (HC.out.below hb)); (obtain ⟨d0, d1, d2, d3, d4, d5⟩ := HC1.out.cells); (have HB1 := hid_ (below_comp HB0.out hb)); (clear hb))
      | ((go_at_call 23); (refine (hG.out _).mono ?_); (rintro e w2 ⟨rfl, hb⟩); (have HC2 := hid_ (HC1.out.below hb)); (clear d0 d1 d2 d3 d4 d5); (obtain ⟨d0, d1, d2, d3, d4, d5⟩ := HC2.out.cells); (have HB2 := hid_ (below_comp HB1.out hb)); (clear hb)))
    go_ret
    exact ⟨rfl, HB2.out⟩
  | false =>
    by_cases h1 : n = 0
    · subst h1
      go_wp2_with (first
        | ((go_at_call 30); (refine (works16_any _).mono ?_); (rintro e w1 ⟨rfl, hb⟩); (have HC1 := hid_ (HC.out.below hb)); (obtain ⟨d0, d1, d2, d3, d4, d5⟩ := HC1.out.cells); (have HB1 := hid_ (below_comp HB0.out hb)); (clear hb))
        | ((go_at_call 23); (refine (hG.out _).mono ?_); (rintro e w2 ⟨rfl, hb⟩); (have HC2 := hid_ (HC1.out.below hb)); (clear d0 d1 d2 d3 d4 d5); (obtain ⟨d0, d1, d2, d3, d4, d5⟩ := HC2.out.cells); (have HB2 := hid_ (below_comp HB1.out hb)); (clear hb)))
      go_ret
      exact ⟨rfl, HB2.out⟩
    have h1' : ((n : Int) == 0) = false := by rw [beq_eq_false_iff_ne]; omega
    go_wp2_with (first
      | ((go_at_call 30); (refine (works16_any _).mono ?_); (rintro e w1 ⟨rfl, hb⟩); (have HC1 := hid_ (HC.out.below hb)); (obtain ⟨d0, d1, d2, d3, d4, d5⟩ := HC1.out.cells); (have HB1 := hid_ (below_comp HB0.out hb)); (clear hb))
      | ((go_at_call 23); (refine (hG.out _).mono ?_); (rintro e w2 ⟨rfl, hb⟩); (have HC2 := hid_ (HC1.out.below hb)); (clear d0 d1 d2 d3 d4 d5); (obtain ⟨d0, d1, d2, d3, d4, d5⟩ := HC2.out.cells); (have HB2 := hid_ (below_comp HB1.out hb)); (clear hb)))
    clear d0 d1 d2 d3 d4 d5 HC HC1 hG HB0 HB1
    go_loopg [3, 4] dd (fun g sv iv wr => ∃ (i cc : Nat) (Ai : Option Addr) (vs : List Value), i ≤ dd ∧ dd ≤ g + i ∧ iv = .int .i64 i ∧ sv = .slice Ai i cc ∧ Hid (wr.ownsRow w2.heap.size 22 1 (.slice Ai i cc) i vs) ∧ Hid (ZRows wr vs D i) ∧ Hid (Upd (fun _ => False) w2 wr))
    case atStart => exact ⟨0, 0, none, [], Nat.zero_le _, by omega, rfl, rfl, hid_ (World.ownsRow_nil _ _ _ _), hid_ ⟨rfl, fun j hj => by omega⟩, hid_ (Upd.refl _ _)⟩
    case round =>
      obtain ⟨i, cc, Ai, vs, hid, hg, rfl, rfl, HO, HZ, HU⟩ := hrel
      obtain ⟨d0, d1, d2, d3, d4, d5⟩ := (HC2.out.below HU.out.toB).cells
      by_cases hlt : i < dd
      · have hlt' : (i : Int) < (dd : Int) := by omega
        obtain ⟨b2, o2, E2, m2, e2, B2, rfl, x2, r2⟩ := rdr_cell (rdr_below HDd.out (below_comp HB2.out HU.out.toB)) (j := i) (by rw [HDL.out]; exact hlt)
        have hm2 := (rdi_len r2).1
        have hm3 := (HWD.out i (by rw [HDL.out]; exact hlt)).2
        have hmk := make_i8s wr m2 (by omega)
        have HM2 := hid_ hm2
        have hfin : ∀ (v' : Value) (w5 : World), w5.ownsRow w2.heap.size 22 1 v' (i + 1) (vs ++ [.slice (some ⟨wr.heap.size, 0, none⟩) m2 m2]) → ((wr.alloc (.cells (zc m2) 87)).alloc (.cells #[.slice (some ⟨wr.heap.size, 0, none⟩) m2 m2] 22)).grownBy w5 (Value.slice Ai i cc).ownBlock →
            ∃ A5 c5, v' = .slice A5 (i + 1) c5 ∧ w5.ownsRow w2.heap.size 22 1 (.slice A5 (i + 1) c5) (i + 1) (vs ++ [.slice (some ⟨wr.heap.size, 0, none⟩) m2 m2]) ∧ ZRows w5 (vs ++ [.slice (some ⟨wr.heap.size, 0, none⟩) m2 m2]) D (i + 1) ∧ Upd (fun _ => False) w2 w5 := by
          intro v' w5 h5 hg5
          obtain ⟨A5, c5, rfl⟩ := own_slice_ h5
          exact ⟨A5, c5, rfl, h5, zrows_next HO.out HZ.out HM2.out hg5, app_upd1 (HO.out.alloc _) (HU.out.alloc _) (Nat.le_refl _) hg5⟩
        have HF := hid_ hfin
        have hsz := HU.out.size
        clear hfin r2 hm2 hm3
        go_wp2_with (at_builtin; refine wpList_append_own _ rfl (.tmp 25) (.tmp 33) 42 rfl w2.heap.size 22 i0 (.slice none 0 0) 1 24 Try.underlying42 hi0 hz0 hz1 hz2 rfl (by decide) _ i _ rfl ((HO.out.alloc _).alloc _) ⟨wr.heap.size + 1, 0, none⟩ 1 1 [.slice (some ⟨wr.heap.size, 0, none⟩) m2 m2] rfl rfl (one_new (by simp)) (one_cell rfl) ?c3 ?c4 ?c5 ?_)
        case c3 => unfold maxLen; omega
        case c4 => omega
        case c5 => simp; omega
        intro v' w5 h5 hg5 _
        obtain ⟨A5, c5, rfl, hO5, hZ5, hU5⟩ := HF.out v' w5 h5 hg5
        have HO5 := hid_ hO5
        have HZ5 := hid_ hZ5
        have HU5 := hid_ hU5
        clear h5 hg5 hO5 hZ5 hU5 HF hmk
        go_wp2_with fail
        go_roundg (dd - (i + 1))
        case measure => omega
        case rel => exact ⟨i + 1, c5, A5, _, by omega, by omega, by go_num, rfl, HO5, HZ5, HU5⟩
      · obtain rfl : i = dd := by omega
        clear hlt
        have hb := below_comp HB2.out HU.out.toB
        have hR := zrows_rdr HO.out HZ.out HDL.out (fun j hj => by have := (HWD.out j (by rw [HDL.out]; exact hj)).2; unfold maxLen; omega)
        have hWz : WtR (zerosOf D) := fun j hj => by
          rw [zerosOf_length] at hj
          rw [zerosOf_at D hj, List.length_replicate]
          exact ⟨fun x hx => by rw [List.eq_of_mem_replicate hx]; omega, (HWD.out j hj).2⟩
        have hM := mix_any (hidden := hidden) (k := k) (rdi_below HRr.out hb) (rdi_below HXx.out hb) HW.out hbig (rdr_below HUu.out hb) hR HWU.out hWz
        by_cases hE : mixE router U (zerosOf D) hidden k xs = 0
        · rw [hE] at hM
          obtain ⟨hz, hl⟩ := mixL_z (zerosOf_z D) hE
          rw [HXL.out] at hl
          generalize mixL router U (zerosOf D) hidden k xs = l at *
          have HM := hid_ hM
          have HL := hid_ hl
          have HZL := hid_ hz
          have HBB := hid_ hb
          have HC3 := hid_ (HC2.out.below HU.out.toB)
          clear hM hl hz hb hR hWz hE HO HZ
          go_wp2_with ((go_at_call 24); (refine HM.out.mono ?_); (rintro e w6 h6); (rw [MixPost, if_pos rfl] at h6); (obtain ⟨A6, c6, rfl, hO6, hb6⟩ := h6); (rw [HL.out] at hO6 ⊢); (have HR6 := hid_ (show RdI w6 w6.heap.size .i64 (.slice A6 n c6) l from Rd.of_own hO6)); (have HC6 := hid_ (HC3.out.below hb6)); (have HB6 := hid_ (below_comp HBB.out hb6)); (clear d0 d1 d2 d3 d4 d5); (obtain ⟨d0, d1, d2, d3, d4, d5⟩ := HC6.out.cells); (clear hO6 hb6))
          go_loop [7] (fun iv => ∃ q : Nat, q ≤ n ∧ iv = .int .i64 q) (fun iv => n - (intOf iv).toNat)
          case atStart => exact ⟨0, Nat.zero_le _, rfl⟩
          case round =>
            obtain ⟨q, hq, rfl⟩ := hrel
            by_cases hlq : q < n
            · have hlq' : (q : Int) < (n : Int) := by omega
              obtain ⟨b, o, rfl, y1⟩ := rdi_cell HR6.out (j := q) (by rw [HL.out]; exact hlq)
              rw [getD_z HZL.out q] at y1
              go_wp2_with fail
              go_round
              case rel => exact ⟨q + 1, by omega, by go_num⟩
              case measure => simp [intOf]; omega
            · obtain rfl : q = n := by omega
              go_wp2_with fail
              go_ret
              exact ⟨by simp, HB6.out⟩
        · have hE1 : (mixE router U (zerosOf D) hidden k xs != 0) = true := by rw [bne_iff_ne]; exact hE
          obtain ⟨x, hx⟩ : ∃ x, mixE router U (zerosOf D) hidden k xs = x := ⟨_, rfl⟩
          rw [hx] at hM hE hE1
          have HM := hid_ hM
          have HE := hid_ hE
          have HBB := hid_ hb
          clear hM hb hR hWz hE hx HO HZ
          go_wp2_with ((go_at_call 24); (refine HM.out.mono ?_); (rintro e w6 h6); (rw [MixPost, if_neg HE.out] at h6); (obtain ⟨rfl, hb6⟩ := h6); (have HB6 := hid_ (below_comp HBB.out hb6)); (clear hb6))
          go_ret
          exact ⟨rfl, HB6.out⟩

set_option maxRecDepth 100000 in
theorem expertNought_args {H : Type} {enc : TypeId × Value → H} {W : World} {base : Nat} {v0 : Value} {d0 : DataW H} {p0 : List MemPlace} {gs : List (DataW H)}
    (h0 : DataW.Trod enc Try.prog W 0 (fun _ => true) true 44 v0 d0 p0) (k0 : Value.okWide Try.prog W .any base 44 v0)
    (hk : Rows.uptoSmall H ([d0] ++ gs) = true) :
    Calls Try.prog 8 #[v0] W (TruePost W) := by
  have hb := bulk_all hk
  have hb0 := bulk_mem (d := d0) (l := [d0] ++ gs) (by simp)
  obtain ⟨A0, A1, A2, A3, L0, c0, u, c1, dd, c2, n, c3, hidden, k, router, xs, U, D, rfl, hr, _, w0, hu, _, hd, _, wu, wd, hx, _, l0, l1, l2, l3⟩ := case_open h0 k0
  have e1 := (rdi_len hr).1
  have e2 := (rdr_len hd).1
  exact expertNought_walk hr hu hd hx (wf_i8 w0) (by omega) (fun i hi => ⟨wf_i8 (wu i hi).1, by have := (wu i hi).2; omega⟩) (fun i hi => ⟨wf_i8 (wd i hi).1, by have := (wd i hi).2; omega⟩) (by omega)
end Go.Proofs.Ytlpeijaeiioimaa
