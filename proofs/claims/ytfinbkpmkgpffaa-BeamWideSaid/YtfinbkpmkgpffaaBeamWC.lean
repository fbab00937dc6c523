/- The document's beams, walked: the best of them, whether two lists are the same; copies of beams; how great a case is. Conditions: the beams and rows are read in slices. -/
import Derived.Test.YtfinbkpmkgpffaaBeamWB
import Derived.Test.YtfinbkpmkgpffaaSame
import Derived.Test.YtfinbkpmkgpffaaStepAppend
namespace Go.Proofs.Ytfinbkpmkgpffaa
open Go.RowKit

theorem Try.infoI64b : (Try.prog.info? 2).map (fun i => (i.zero, i.size, i.bytes)) = some (some (.int .i64 0), 1, 8) := by kernel_rfl
theorem Try.infoBeam : (Try.prog.info? 55).map (fun i => (i.zero, i.size, i.bytes)) = some (some (.agg #[.slice none 0 0, .int .i64 0, .bool false]), 3, 40) := by kernel_rfl
theorem Try.infoRBeam : (Try.prog.info? 57).map (fun i => (i.zero, i.size, i.bytes)) = some (some (.agg #[.slice none 0 0, .int .i64 0, .bool false]), 3, 40) := by kernel_rfl
theorem finalsV_snoc {L : List Bm} {p : Int} {k : Nat} (h : k < L.length) : (finalsV L p).take (k + 1) = (finalsV L p).take k ++ [(finalsV L p).getD k 0] := by
  have h2 : k < (finalsV L p).length := by rw [finalsV_length]; exact h
  rw [take_snoc_bm (finalsV L p) (List.getElem?_eq_getElem h2), List.getD_eq_getElem?_getD, List.getElem?_eq_getElem h2]
  rfl
set_option maxHeartbeats 1600000 in
theorem rbest_any {w : World} {v : Value} {X : List Bx} (hx : RdBms w v X) (hn : X.length < 4294967296) (p : Int) :
    Calls Try.prog 38 #[v, .int .i64 p] w (fun e w' => e = .returned (.int .i64 (maxV (finalsV (bms X) p))) ∧ Below w.heap.size w w') := by
  obtain ⟨A, c, rfl, _, _⟩ := rdbms_form hx
  have HX := hid_ hx
  have HML : Hid ((finalsV (bms X) p).length = X.length) := by show _ = _; rw [finalsV_length, bms_length]
  obtain ⟨i0, hi0, hz0, hz1, hz2⟩ := info_parts Try.infoI64b
  clear hx
  go_enter Try.func38, Try.ntmps38
  go_wp2_with fail
  go_loopw [5, 6] (fun xv iv wr => ∃ (k c2 : Nat) (A2 : Option Addr), k ≤ X.length ∧ iv = .int .i64 k ∧ xv = .slice A2 k c2 ∧ Hid (wr.ownsRow w.heap.size 2 1 (.slice A2 k c2) k (((finalsV (bms X) p).take k).map (Value.int .i64))) ∧ Hid (Below w.heap.size w wr)) (fun _ iv _ => X.length - (intOf iv).toNat)
  case atStart => exact ⟨0, 0, none, Nat.zero_le _, rfl, rfl, hid_ (World.ownsRow_nil _ _ _ _), hid_ (Below.refl _ _)⟩
  case round =>
    obtain ⟨k, c2, A2, hk, rfl, rfl, HO, HB⟩ := hrel
    by_cases hlt : k < X.length
    · have hlt' : (k : Int) < (X.length : Int) := by omega
      obtain ⟨x, hx1, hx2, _⟩ := bx_get hlt
      have hat := rdbms_at (rdbms_below HX.out HB.out) hx1
      obtain ⟨b, o, rfl, hb, c0, c1, c2'⟩ := hat.ex
      obtain ⟨TA, tc, htx, _, htm, _⟩ := RdI.form hat.tok
      have hfk := finalsV_get (p := p) hx2
      rw [finalV_eq] at hfk
      obtain ⟨tx, ⟨tk, sc, dn⟩⟩ := x
      simp only at c0 c1 c2' htx htm hfk
      subst htx
      have hts := finalsV_snoc (p := p) (show k < (bms X).length by rw [bms_length]; exact hlt)
      clear hat hx2
      unfold maxLen at htm
      obtain ⟨fk, hfk2⟩ : ∃ fk, divV sc (65536 + 4096 * clampP p * ((lenV tk.length : Nat) : Int)) = fk := ⟨_, rfl⟩
      have HF := fun (W : World) => hid_ (rfinal_any W TA tk.length tc sc dn p htm)
      rw [hfk2] at HF hfk
      rw [hfk] at hts
      have HTS : Hid (((finalsV (bms X) p).take (k + 1)).map (Value.int .i64) = ((finalsV (bms X) p).take k).map (Value.int .i64) ++ [.int .i64 fk]) := by rw [hts, List.map_append]; exact hid_ rfl
      clear hfk hfk2 hts
      generalize tk.length = tl at *
      have hsz := HB.out.size
      go_wp2_with (first
        | ((go_at_call 36); (refine (HF _).out.mono ?_); (rintro e w5 ⟨rfl, hb5⟩); (have HO5 := hid_ (own_below HO.out hb5)); (have HB5 : Hid (Below w.heap.size w w5) := below_comp HB.out hb5); (have hsz5 := HB5.out.size); (clear hb5))
        | (at_builtin; refine wpList_append_own _ rfl (.tmp 13) (.tmp 20) 29 rfl w.heap.size 2 i0 (.int .i64 0) 1 8 Try.underlying29 hi0 hz0 hz1 hz2 rfl (by decide) _ k _ rfl (HO5.out.alloc _) ⟨w5.heap.size, 0, none⟩ 1 1 [.int .i64 fk] rfl rfl (one_new rfl) (one_cell rfl) ?c3 ?c4 ?c5 ?_))
      case c3 => unfold maxLen; omega
      case c4 => omega
      case c5 => simp; omega
      intro v' w6 h6 hg6 _
      obtain ⟨A5, c5, rfl⟩ := own_slice_ h6
      have HO6 : Hid (w6.ownsRow w.heap.size 2 1 (.slice A5 (k + 1) c5) (k + 1) (((finalsV (bms X) p).take (k + 1)).map (Value.int .i64))) := by rw [HTS.out]; rw [← List.map_take] at h6; exact h6
      have HB6 : Hid (Below w.heap.size w w6) := (app_upd1 HO5.out (Upd.of_below (S := fun _ => False) HB5.out) (Nat.le_refl _) hg6).toB
      clear h6 hg6
      go_wp2_with fail
      go_roundw
      case rel => exact ⟨k + 1, c5, A5, by omega, by go_num, rfl, HO6, HB6⟩
      case measure => simp [intOf]; omega
    · obtain rfl : k = X.length := by omega
      have hO := HO.out
      rw [List.take_of_length_le (by rw [HML.out]; exact Nat.le_refl _)] at hO
      have hl : (finalsV (bms X) p).length < 4294967296 := by rw [HML.out]; exact hn
      have HMX := hid_ (rmax_any (Rd.of_own hO : RdI wr wr.heap.size .i64 (.slice A2 X.length c2) (finalsV (bms X) p)) (by omega))
      clear hO hl
      go_wp2_with ((go_at_call 21); (refine HMX.out.mono ?_); (rintro e w5 ⟨rfl, hb5⟩); (have HB5 := hid_ (below_comp HB.out hb5)); (clear hb5))
      go_ret
      exact ⟨rfl, HB5.out⟩
theorem bm_ext {x y : Bm} (h1 : x.tokens = y.tokens) (h2 : x.score = y.score) (h3 : x.done = y.done) : x = y := by
  cases x; cases y; simp only at h1 h2 h3; subst h1 h2 h3; rfl
theorem bms_eq {X Y : List Bx} (hl : X.length = Y.length) (h : ∀ (j : Nat) (x y : Bx), X[j]? = some x → Y[j]? = some y → x.b = y.b) : bms X = bms Y := by
  refine List.ext_getElem? fun i => ?_
  unfold bms
  rw [List.getElem?_map, List.getElem?_map]
  rcases Nat.lt_or_ge i X.length with h1 | h1
  · rw [List.getElem?_eq_getElem h1, List.getElem?_eq_getElem (by omega : i < Y.length)]
    exact congrArg some (h i _ _ (List.getElem?_eq_getElem h1) (List.getElem?_eq_getElem (by omega)))
  · rw [List.getElem?_eq_none h1, List.getElem?_eq_none (by omega)]
theorem bms_ne {X Y : List Bx} {j : Nat} {x y : Bx} (hx : X[j]? = some x) (hy : Y[j]? = some y) (hn : x.b ≠ y.b) : bms X ≠ bms Y := by
  intro h
  have h1 : (bms X)[j]? = some x.b := by unfold bms; rw [List.getElem?_map, hx]; rfl
  have h2 : (bms Y)[j]? = some y.b := by unfold bms; rw [List.getElem?_map, hy]; rfl
  rw [h, h2] at h1
  injection h1 with h1
  exact hn h1.symm
def SameB (X Y : List Bx) (w : World) (e : Ending) (w' : World) : Prop := e = .returned (.bool (decide (bms X = bms Y))) ∧ ∃ n, w' = w.drewN n
set_option maxHeartbeats 3200000 in
theorem rsameB_any {w : World} {v u : Value} {X Y : List Bx} (hx : RdBms w v X) (hy : RdBms w u Y) :
    Calls Try.prog 33 #[v, u] w (SameB X Y w) := by
  obtain ⟨A, c, rfl, _, hm⟩ := rdbms_form hx
  obtain ⟨A', c', rfl, _, hm'⟩ := rdbms_form hy
  unfold maxLen at hm hm'
  have HX := hid_ hx
  have HY := hid_ hy
  clear hx hy
  by_cases hl : X.length = Y.length
  · have HL := hid_ hl
    rw [← hl] at hm' HY ⊢
    clear hl
    go_enter Try.func33, Try.ntmps33
    go_wp2_with fail
    go_loopw [5] (fun iv wr => ∃ k : Nat, k ≤ X.length ∧ iv = .int .i64 k ∧ Hid (∀ (j : Nat) (x y : Bx), j < k → X[j]? = some x → Y[j]? = some y → x.b = y.b) ∧ Hid (∃ n, wr = w.drewN n)) (fun iv _ => X.length - (intOf iv).toNat)
    case atStart => exact ⟨0, Nat.zero_le _, rfl, hid_ (fun j _ _ hj => absurd hj (by omega)), hid_ ⟨0, rfl⟩⟩
    case round =>
      obtain ⟨k, hk, rfl, HE, HW⟩ := hrel
      by_cases hlt : k < X.length
      · have hlt' : (k : Int) < (X.length : Int) := by omega
        obtain ⟨x, hx1, hx2, _⟩ := bx_get hlt
        obtain ⟨y, hy1, hy2, _⟩ := bx_get (X := Y) (i := k) (by have := HL.out; omega)
        have hat := rdbms_at (rdbms_below HX.out (below_drawn HW.out)) hx1
        have hat2 := rdbms_at (rdbms_below HY.out (below_drawn HW.out)) hy1
        obtain ⟨b, o, rfl, hb, c0, c1, c2⟩ := hat.ex
        obtain ⟨b2, o2, rfl, hb2, e0, e1, e2⟩ := hat2.ex
        have HT : ∀ q, Hid (Calls Try.prog 22 #[x.v, y.v] (wr.drewN q) (SamePost x.b.tokens y.b.tokens (wr.drewN q))) := fun q => same07_any (rdi_drew hat.tok q) (rdi_drew hat2.tok q)
        have HWN := fun q => hid_ (drawn_next HW.out q)
        have HX1 := hid_ hx1
        have HY1 := hid_ hy1
        have HSt : Hid (x.b = y.b → ∀ (j : Nat) (x y : Bx), j < k + 1 → X[j]? = some x → Y[j]? = some y → x.b = y.b) := fun h9 j x' y' hj h1 h2 => by
          rcases Nat.lt_or_ge j k with h3 | h3
          · exact HE.out j x' y' h3 h1 h2
          · obtain rfl : j = k := by omega
            rw [HX1.out] at h1
            rw [HY1.out] at h2
            injection h1 with h1
            injection h2 with h2
            subst h1 h2
            exact h9
        have HNo : Hid (x.b ≠ y.b → decide (bms X = bms Y) = false) := fun h9 => decide_eq_false (bms_ne HX1.out HY1.out h9)
        obtain ⟨tx, ⟨tk, sc, dn⟩⟩ := x
        obtain ⟨ty, ⟨tk2, sc2, dn2⟩⟩ := y
        simp only at c0 c1 c2 e0 e1 e2 HT HSt HNo
        clear hx1 hy1 hx2 hy2 hat hat2 HX1 HY1
        by_cases hs : sc = sc2
        · subst hs
          have b1 : (sc != sc) = false := bne_self_eq_false sc
          by_cases hd : dn = dn2
          · subst hd
            have b2' : (dn != dn) = false := bne_self_eq_false dn
            by_cases ht : tk = tk2
            · subst ht
              have HT2 := fun q => hid_ ((HT q).out.mono (R' := fun e w' => e = .returned (.bool true) ∧ ∃ m, w' = (wr.drewN q).drewN m) (fun e w' ⟨h1, h2⟩ => ⟨by rw [h1, decide_eq_true rfl], h2⟩))
              have HS2 := hid_ (HSt.out rfl)
              clear HT
              go_wp2_with fail
              go_quiet ((go_at_call 22; exact Calls.quiet_of (HT2 _).out))
              go_wp2_with fail
              go_roundw
              case rel => exact ⟨k + 1, by omega, by go_num, HS2, HWN _⟩
              case measure => simp [intOf]; omega
            · have HT2 := fun q => hid_ ((HT q).out.mono (R' := fun e w' => e = .returned (.bool false) ∧ ∃ m, w' = (wr.drewN q).drewN m) (fun e w' ⟨h1, h2⟩ => ⟨by rw [h1, decide_eq_false ht], h2⟩))
              have HN2 := hid_ (HNo.out (fun h => ht (congrArg Bm.tokens h)))
              clear HT ht
              go_wp2_with fail
              go_quiet ((go_at_call 22; exact Calls.quiet_of (HT2 _).out))
              go_wp2_with fail
              go_ret
              exact ⟨by rw [HN2.out]; rfl, (HWN _).out⟩
          · have HN2 := hid_ (HNo.out (fun h => hd (congrArg Bm.done h)))
            obtain ⟨rfl, rfl⟩ | ⟨rfl, rfl⟩ : (dn = true ∧ dn2 = false) ∨ (dn = false ∧ dn2 = true) := by
              cases dn <;> cases dn2 <;> simp_all
            all_goals
              clear hd
              go_wp2_with fail
              go_quiet (fail)
              go_wp2_with fail
              go_ret
              exact ⟨by rw [HN2.out]; rfl, (HWN _).out⟩
        · have b1 : (sc != sc2) = true := bne_iff_ne.2 hs
          have b1' : (sc == sc2) = false := beq_eq_false_iff_ne.2 hs
          have HN2 := hid_ (HNo.out (fun h => hs (congrArg Bm.score h)))
          clear hs
          go_wp2_with fail
          go_quiet (fail)
          go_wp2_with fail
          go_ret
          exact ⟨by rw [HN2.out]; rfl, (HWN _).out⟩
      · obtain rfl : k = X.length := by omega
        have HD : Hid (decide (bms X = bms Y) = true) := decide_eq_true (bms_eq HL.out (fun j x y h1 h2 => HE.out j x y (List.getElem?_eq_some_iff.1 h1).1 h1 h2))
        go_wp2_with fail
        go_ret
        exact ⟨by rw [HD.out]; rfl, HW.out⟩
  · have HD : Hid (decide (bms X = bms Y) = false) := decide_eq_false (fun h => hl (by rw [← bms_length X, h, bms_length]))
    have b1 : ((X.length : Int) != (Y.length : Int)) = true := by rw [bne_iff_ne]; omega
    clear hl
    go_enter Try.func33, Try.ntmps33
    go_wp2_with fail
    go_ret
    exact ⟨by rw [HD.out]; rfl, 0, rfl⟩
end Go.Proofs.Ytfinbkpmkgpffaa
