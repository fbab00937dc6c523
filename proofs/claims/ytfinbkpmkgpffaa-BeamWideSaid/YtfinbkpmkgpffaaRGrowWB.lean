/- The best of any beams with a token more, walked: the document's Grow. Conditions: the beams and rows are read in slices, and are not many. -/
import Derived.Test.YtfinbkpmkgpffaaRGrowMem
namespace Go.Proofs.Ytfinbkpmkgpffaa
open Go.RowKit

def okTo (R : List (List Int)) (i : Nat) : Bool := allFull (R.take i)
theorem okTo_succ {R : List (List Int)} {i : Nat} (h : i < R.length) : okTo R (i + 1) = (okTo R i && decide (0 < (R.getD i []).length)) := by
  unfold okTo allFull
  rw [take_snoc_bm R (List.getElem?_eq_getElem h), List.all_append]
  have e : R.getD i [] = R[i] := by rw [List.getD_eq_getElem?_getD, List.getElem?_eq_getElem h]; rfl
  rw [e]
  simp
theorem okTo_all (R : List (List Int)) : okTo R R.length = allFull R := by unfold okTo; rw [List.take_length]
def ok0V (L : List Bm) (R : List (List Int)) : Bool := decide (0 < L.length) && decide (liveTo L L.length = R.length)
theorem fit_ok (L : List Bm) (R : List (List Int)) : fitV L R = (ok0V L R && allFull R) := rfl
set_option maxRecDepth 100000 in
set_option maxHeartbeats 8000000 in
theorem rgrow_run {w : World} {v u : Value} {X : List Bx} {R : List (List Int)} (hx : RdBms w v X) (hr : RdRows w u R) (hsz : X.length + (R.map List.length).sum < 200) (htk : ∀ x ∈ X, x.b.tokens.length < 200) (width length stop : Int) :
    Calls Try.prog 32 #[v, u, .int .i64 width, .int .i64 length, .int .i64 stop] w (GrowPost w (growE (bms X) R width) (growB (bms X) R width length stop) (growF (bms X) R width length stop)) := by
  obtain ⟨A, c, rfl, _, _⟩ := rdbms_form hx
  obtain ⟨A2, c2, rfl, hrc, hRm, _⟩ := id hr
  have hxl : X.length < 200 := by omega
  unfold maxLen at hRm
  have HX := hid_ hx
  have HR := hid_ hr
  have HSZ := hid_ hsz
  have HTK := hid_ htk
  obtain ⟨k0, hk0, kz0, kz1, kz2⟩ := info_parts Try.infoRBeam
  obtain ⟨j0, hj0, jz0, jz1, jz2⟩ := info_parts Try.infoInt
  obtain ⟨l0, hl0, lz0, lz1, lz2⟩ := info_parts Try.infoI64b
  by_cases hw1 : width < 1 ∨ 4 < width
  · have e : growE (bms X) R width = 20 := by unfold growE; rw [if_pos hw1]
    have eb : growB (bms X) R width length stop = [] := by unfold growB; rw [e]; rfl
    have ef : growF (bms X) R width length stop = [] := by unfold growF; rw [e]; rfl
    rw [e, eb, ef]
    clear hx hr hsz htk e eb ef
    by_cases h1 : width < 1
    · clear hw1
      go_enter Try.func32, Try.ntmps32
      go_wp2_with fail
      go_ret3
      exact ⟨_, _, [], rfl, ⟨none, 0, rfl, Nat.le_refl _, Nat.zero_le _, fun i x h => by cases h⟩, rfl, rdi_nil _ _ _ _ _, Below.refl _ _⟩
    · have h2 : 4 < width := by omega
      clear hw1
      go_enter Try.func32, Try.ntmps32
      go_wp2_with fail
      go_ret3
      exact ⟨_, _, [], rfl, ⟨none, 0, rfl, Nat.le_refl _, Nat.zero_le _, fun i x h => by cases h⟩, rfl, rdi_nil _ _ _ _ _, Below.refl _ _⟩
  · have h1 : ¬ width < 1 := by omega
    have h2 : ¬ 4 < width := by omega
    have HE : Hid (growE (bms X) R width = if fitV (bms X) R = false then 21 else 0) := by unfold growE; rw [if_neg hw1]; exact hid_ rfl
    clear hx hr hsz htk hw1
    go_enter Try.func32, Try.ntmps32
    go_wp2_with fail
    go_loop [13, 14] (fun lv iv => ∃ k : Nat, k ≤ X.length ∧ iv = .int .i64 k ∧ lv = .int .i64 ((liveTo (bms X) k : Nat) : Int)) (fun _ iv => X.length - (intOf iv).toNat)
    case atStart => exact ⟨0, Nat.zero_le _, rfl, rfl⟩
    case round =>
      obtain ⟨k, hk, rfl, rfl⟩ := hrel
      have hlk := liveTo_le (bms X) k
      by_cases hlt : k < X.length
      · have hlt' : (k : Int) < (X.length : Int) := by omega
        obtain ⟨x, hx1, hx2, _⟩ := bx_get hlt
        obtain ⟨b, o, rfl, hb, c0, c1, c2⟩ := (rdbms_at HX.out hx1).ex
        have hs := liveTo_succ hx2
        obtain ⟨tx, ⟨tk, sc, dn⟩⟩ := x
        simp only at c0 c1 c2 hs
        generalize liveTo (bms X) k = lk at *
        cases dn with
        | true =>
          have HS : Hid (liveTo (bms X) (k + 1) = lk) := hs
          clear hs hx2
          go_wp2_with fail
          go_round
          case rel => exact ⟨k + 1, by omega, by go_num, by rw [HS.out]⟩
          case measure => simp [intOf]; omega
        | false =>
          have HS : Hid (liveTo (bms X) (k + 1) = lk + 1) := hs
          clear hs hx2
          go_wp2_with fail
          go_round
          case rel => exact ⟨k + 1, by omega, by go_num, by rw [HS.out]; go_num⟩
          case measure => simp [intOf]; omega
      · obtain rfl : k = X.length := by omega
        clear hlt hk
        obtain ⟨ok0, hok0⟩ : ∃ ok0, ok0V (bms X) R = ok0 := ⟨_, rfl⟩
        have hokd := hok0
        unfold ok0V at hokd
        rw [bms_length] at hokd
        have HOK := hid_ hok0
        clear hok0
        go_upto_region 9 with fail
        go_cut [15] (fun v15 wx => v15 = .bool ok0 ∧ wx = w)
        case first =>
          by_cases h0 : 0 < X.length
          · rw [decide_eq_true h0] at hokd
            have h0' : (0 : Int) < (X.length : Int) := by omega
            by_cases h1 : liveTo (bms X) X.length = R.length
            · rw [decide_eq_true h1] at hokd
              have b1 : (((liveTo (bms X) X.length : Nat) : Int) == (R.length : Int)) = true := by rw [beq_iff_eq]; omega
              obtain rfl : ok0 = true := hokd.symm
              clear hokd h1
              generalize liveTo (bms X) X.length = lk at *
              go_wp2_with fail
              go_meet
              exact ⟨rfl, rfl⟩
            · rw [decide_eq_false h1] at hokd
              have b1 : (((liveTo (bms X) X.length : Nat) : Int) == (R.length : Int)) = false := beq_eq_false_iff_ne.2 (by omega)
              obtain rfl : ok0 = false := hokd.symm
              clear hokd h1
              generalize liveTo (bms X) X.length = lk at *
              go_wp2_with fail
              go_meet
              exact ⟨rfl, rfl⟩
          · rw [decide_eq_false h0] at hokd
            have h0' : ¬ (0 : Int) < (X.length : Int) := by omega
            obtain rfl : ok0 = false := hokd.symm
            clear hokd
            generalize liveTo (bms X) X.length = lk at *
            go_wp2_with fail
            go_meet
            exact ⟨rfl, rfl⟩
        case rest =>
        obtain ⟨rfl, hwc⟩ := hcut
        obtain rfl : w = wc := hwc.symm
        clear hokd hlk
        generalize liveTo (bms X) X.length = lk at *
        go_wp2_with fail
        go_loop [15, 16] (fun ov iv => ∃ k : Nat, k ≤ R.length ∧ iv = .int .i64 k ∧ ov = .bool (ok0 && okTo R k)) (fun _ iv => R.length - (intOf iv).toNat)
        case atStart => exact ⟨0, Nat.zero_le _, rfl, by show _ = Value.bool (ok0 && true); rw [Bool.and_true]⟩
        case round =>
          obtain ⟨k, hk, rfl, rfl⟩ := hrel
          by_cases hlt : k < R.length
          · have hlt' : (k : Int) < (R.length : Int) := by omega
            obtain ⟨b, o, A', c', rfl, hb, d0, hrow⟩ := rdrows_at HR.out hlt
            have hs := okTo_succ hlt
            generalize (R.getD k []).length = rl at *
            generalize okTo R k = ok1 at *
            by_cases hok : (ok0 && ok1) = true
            · rw [Bool.and_eq_true] at hok
              obtain ⟨rfl, rfl⟩ := hok
              by_cases h0 : 0 < rl
              · have h0' : (0 : Int) < (rl : Int) := by omega
                have HS : Hid (okTo R (k + 1) = true) := by rw [hs, decide_eq_true h0]; rfl
                clear hs hrow
                go_wp2_with fail
                go_round
                case rel => exact ⟨k + 1, by omega, by go_num, by rw [HS.out]; rfl⟩
                case measure => simp [intOf]; omega
              · have h0' : ¬ (0 : Int) < (rl : Int) := by omega
                have HS : Hid (okTo R (k + 1) = false) := by rw [hs, decide_eq_false h0]; rfl
                obtain rfl : rl = 0 := by omega
                clear hs hrow
                go_wp2_with fail
                go_round
                case rel => exact ⟨k + 1, by omega, by go_num, by rw [HS.out]; rfl⟩
                case measure => simp [intOf]; omega
            · have hokf : (ok0 && ok1) = false := by simpa using hok
              have HS : Hid ((ok0 && okTo R (k + 1)) = false) := by rw [hs, ← Bool.and_assoc, hokf]; rfl
              rw [hokf]
              clear hs hrow hok hokf
              go_wp2_with fail
              go_round
              case rel => exact ⟨k + 1, by omega, by go_num, by rw [HS.out]⟩
              case measure => simp [intOf]; omega
          · obtain rfl : k = R.length := by omega
            have hfit : fitV (bms X) R = (ok0 && okTo R R.length) := by rw [fit_ok, HOK.out, okTo_all]
            rw [← hfit]
            clear hlt hk
            by_cases hf : fitV (bms X) R = false
            · have e : growE (bms X) R width = 21 := by rw [HE.out, if_pos hf]
              have eb : growB (bms X) R width length stop = [] := by unfold growB; rw [e]; rfl
              have ef : growF (bms X) R width length stop = [] := by unfold growF; rw [e]; rfl
              rw [hf]
              have HEE := hid_ e
              have HEB := hid_ eb
              have HEF := hid_ ef
              clear e eb ef hf hfit
              go_wp2_with fail
              go_ret3
              exact ⟨_, _, [], by rw [HEE.out]; rfl, ⟨none, 0, rfl, Nat.le_refl _, Nat.zero_le _, fun i x h => by cases h⟩, by rw [HEB.out]; rfl, by rw [HEF.out]; exact rdi_nil _ _ _ _ _, Below.refl _ _⟩
            · have hft : fitV (bms X) R = true := by
                cases h : fitV (bms X) R
                · exact absurd h hf
                · rfl
              have e : growE (bms X) R width = 0 := by rw [HE.out, if_neg hf]
              obtain ⟨w1, w4, _, hx0, hlv, hall⟩ := growE_run e
              rw [bms_length] at hx0 hlv
              have hRl : R.length < 200 := by have := liveTo_le (bms X) X.length; omega
              have HE0 := hid_ e
              have HLV := hid_ hlv
              have HALL := hid_ hall
              rw [hft]
              clear e hf hft hfit hlv hall HOK HE
              go_wp2_with fail
              go_loopw [17, 18, 19, 20, 21] (fun av fv sv nv iv wr => ∃ (i : Nat) (XA : List Bx) (F : List Int) (A7 A8 A9 : Option Addr) (c7 c8 c9 N : Nat), i ≤ X.length ∧ N < 200 ∧ iv = .int .i64 i ∧ nv = .int .i64 ((liveTo (bms X) i : Nat) : Int) ∧ av = .slice A7 N c7 ∧ fv = .slice A8 N c8 ∧ sv = .slice A9 N c9 ∧ Hid (XA.length = N ∧ F.length = N) ∧
                Hid (RS w wr (.slice A7 N c7) (.slice A8 N c8) (.slice A9 N c9) XA F ((bms XA).map (·.score))) ∧ Hid (bms XA = (candTo (bms X) R length stop i).map (·.1)) ∧ Hid (F = (candTo (bms X) R length stop i).map (·.2))) (fun _ _ _ _ iv _ => X.length - (intOf iv).toNat)
              case atStart => exact ⟨0, [], [], none, none, none, 0, 0, 0, 0, Nat.zero_le _, by omega, rfl, rfl, rfl, rfl, rfl, hid_ ⟨rfl, rfl⟩, hid_ ⟨World.ownsRow_nil _ _ _ _, (fun x hx => by cases hx), World.ownsRow_nil _ _ _ _, World.ownsRow_nil _ _ _ _, Below.refl _ _⟩, hid_ rfl, hid_ rfl⟩
              case round =>
                obtain ⟨i, XA, F, A7, A8, A9, c7, c8, c9, N, hi, hN, rfl, rfl, rfl, rfl, rfl, HN, HRS, HBA, HFA⟩ := hrel
                by_cases hlt : i < X.length
                · have hlt' : (i : Int) < (X.length : Int) := by omega
                  obtain ⟨x, hx1, hx2, _⟩ := bx_get hlt
                  have hat := rdbms_at (rdbms_below HX.out HRS.out.b) hx1
                  obtain ⟨b, o, rfl, hb, c0, c1, c2'⟩ := hat.ex
                  obtain ⟨TA, tc, htx, _, _, _⟩ := RdI.form hat.tok
                  have hxt := HTK.out x (List.mem_of_getElem? hx1)
                  have hls := liveTo_succ hx2
                  have HX2 := hid_ hx2
                  obtain ⟨tx, ⟨tk, sc, dn⟩⟩ := x
                  simp only at c0 c1 c2' htx hxt hls
                  subst htx
                  have HTok : Hid (TokF w.heap.size wr (.slice A8 N c8) (.slice TA tk.length tc) tk) := by
                    obtain ⟨_, _, _, _, _, h5⟩ := id HX.out
                    obtain ⟨_, h6, h7⟩ := h5 i _ hx1
                    exact .inl ⟨rdi_below h6 HRS.out.b, h7⟩
                  have HTr := hid_ hat.tok
                  have HFo := hid_ hat.form
                  have HLS := hid_ hls
                  clear hx2 hat hls
                  have hlk := liveTo_le (bms X) i
                  have hba : Below wr.heap.size wr (wr.alloc (.cells #[.slice TA tk.length tc, .int .i64 sc, .bool dn] 57)) := below_alloc _ _
                  have hcs : CS w.heap.size (wr.alloc (.cells #[.slice TA tk.length tc, .int .i64 sc, .bool dn] 57)) (.slice A7 N c7) (.slice A8 N c8) wr.heap.size 1 [⟨.slice TA tk.length tc, ⟨tk, sc, dn⟩⟩] := CS.one HTok.out HRS.out.a _ _ _ rfl
                  have HRSb := hid_ (HRS.out.below hba)
                  have HCSb := hid_ hcs
                  have d0 := (hba.cell (p := ⟨b, o + i * 3, none⟩) hb).trans c0
                  have d1 := (hba.cell (p := ⟨b, o + i * 3 + 1, none⟩) hb).trans c1
                  have d2 := (hba.cell (p := ⟨b, o + i * 3 + 2, none⟩) hb).trans c2'
                  have HBb := hid_ hba
                  have hbb : b < (wr.alloc (.cells #[.slice TA tk.length tc, .int .i64 sc, .bool dn] 57)).heap.size := Nat.lt_of_lt_of_le hb hba.size
                  clear hcs hba
                  go_upto_if 91 with fail
                  obtain ⟨g1, hg1⟩ : ∃ g1, wr.heap.size = g1 := ⟨_, rfl⟩
                  rw [hg1] at HCSb ⊢
                  generalize (wr.alloc (.cells #[.slice TA tk.length tc, .int .i64 sc, .bool dn] 57)) = wb at *
                  clear c0 c1 c2' hg1
                  go_cut [20, 22] (fun v20 v22 wx => ∃ (Xc : List Bx) (bc cap q : Nat), v20 = .int .i64 ((liveTo (bms X) (i + 1) : Nat) : Int) ∧ v22 = .slice (some ⟨bc, 0, none⟩) q cap ∧ Hid (Xc.length = q) ∧ q < 200 ∧ Hid (RS w wx (.slice A7 N c7) (.slice A8 N c8) (.slice A9 N c9) XA F ((bms XA).map (·.score))) ∧ Hid (CS w.heap.size wx (.slice A7 N c7) (.slice A8 N c8) bc cap Xc) ∧ Hid (bms Xc = candOf (bms X) R length stop i))
                  case first =>
                    have HGD : Hid ((bms X).getD i ⟨[], 0, false⟩ = ⟨tk, sc, dn⟩) := by rw [List.getD_eq_getElem?_getD, HX2.out]; exact hid_ rfl
                    cases dn with
                    | true =>
                      have HS : Hid (liveTo (bms X) (i + 1) = liveTo (bms X) i) := HLS.out
                      have HC1 : Hid (bms [⟨.slice TA tk.length tc, ⟨tk, sc, true⟩⟩] = candOf (bms X) R length stop i) := by unfold candOf; rw [HGD.out]; exact hid_ rfl
                      go_wp2_with fail
                      go_meet
                      exact ⟨_, g1, 1, 1, by rw [HS.out], rfl, hid_ rfl, by omega, HRSb, HCSb, HC1⟩
                    | false =>
                      have HS : Hid (liveTo (bms X) (i + 1) = liveTo (bms X) i + 1) := HLS.out
                      have hll := liveTo_lt HX2.out rfl
                      rw [bms_length, HLV.out] at hll
                      obtain ⟨b3, o3, A', c', hA2, hb3, e0, hrow⟩ := rdrows_at (rdrows_below HR.out HRSb.out.b) (i := liveTo (bms X) i) hll
                      have hrl : 0 < (R.getD (liveTo (bms X) i) []).length := allFull_at HALL.out hll
                      have hrow200 : (R.getD (liveTo (bms X) i) []).length < 200 := by
                        have h1 : (R.getD (liveTo (bms X) i) []).length ≤ (R.map List.length).sum := by
                          refine mem_le_sum (List.mem_map.2 ⟨_, ?_, rfl⟩)
                          rw [List.getD_eq_getElem?_getD, List.getElem?_eq_getElem hll]
                          exact List.getElem_mem hll
                        have := HSZ.out
                        omega
                      have HC1 : Hid (candOf (bms X) R length stop i = grownV ⟨tk, sc, false⟩ (R.getD (liveTo (bms X) i) []) length stop) := by unfold candOf; rw [HGD.out]; exact hid_ rfl
                      obtain ⟨row, hrw⟩ : ∃ row, R.getD (liveTo (bms X) i) [] = row := ⟨_, rfl⟩
                      rw [hrw] at e0 hrow hrl hrow200 HC1
                      have hlli : ((liveTo (bms X) i : Nat) : Int) < (R.length : Int) := by omega
                      subst hA2
                      have HG := fun (W : World) (hW : Upd (fun _ => False) wb W) => hid_ (rgrown_any (w := W) (sc := sc) (dn := false) (rdi_below (rdi_below HTr.out HBb.out) hW.toB |> rdi_low) HFo.out (rdi_low (rdi_below hrow hW.toB)) hrow200 hxt length stop)
                      have HOWN : Hid (∀ w5 u5 X5, Below wb.drew.heap.size wb.drew w5 → w5.ownsRow wb.drew.heap.size 57 3 u5 X5.length (X5.flatMap Bx.cells) → (∀ x ∈ X5, w5.ownsRow wb.drew.heap.size 3 1 x.v x.b.tokens.length (x.b.tokens.map (Value.int .i64))) → bms X5 = grownV ⟨tk, sc, false⟩ row length stop →
                          ∃ bc cap, u5 = .slice (some ⟨bc, 0, none⟩) row.length cap ∧ X5.length = row.length ∧ CS w.heap.size w5 (.slice A7 N c7) (.slice A8 N c8) bc cap X5 ∧ RS w w5 (.slice A7 N c7) (.slice A8 N c8) (.slice A9 N c9) XA F ((bms XA).map (·.score)) ∧ (w5.cell? ⟨b, o + i * 3, none⟩ = some (.slice TA tk.length tc) ∧ w5.cell? ⟨b, o + i * 3 + 1, none⟩ = some (.int .i64 sc) ∧ w5.cell? ⟨b, o + i * 3 + 2, none⟩ = some (.bool false)) ∧ w5.cell? ⟨b3, o3 + liveTo (bms X) i, none⟩ = some (.slice A' row.length c')) := fun w5 u5 X5 hb5 ho5 ht5 hx5 => by
                        have hl5 : X5.length = row.length := by rw [← bms_length, hx5, grownV_length]
                        have hbd : Below wb.heap.size wb w5 := ((Upd.refl (fun _ => False) wb).drew.below hb5).toB
                        have hrd := HRSb.out.below (((Upd.refl (fun _ => False) wb).drew).toB)
                        obtain ⟨bc, cap, h1, h2, _⟩ := CS.own hb5 (by have := HRSb.out.b.size; exact this) hrd.a hrd.f ho5 (by omega) ht5
                        rw [hl5] at h1
                        exact ⟨bc, cap, h1, hl5, h2, HRSb.out.below hbd, ⟨(hbd.cell (p := ⟨b, o + i * 3, none⟩) hbb).trans d0, (hbd.cell (p := ⟨b, o + i * 3 + 1, none⟩) hbb).trans d1, (hbd.cell (p := ⟨b, o + i * 3 + 2, none⟩) hbb).trans d2⟩, (hbd.cell (p := ⟨b3, o3 + liveTo (bms X) i, none⟩) hb3).trans e0⟩
                      generalize liveTo (bms X) i = lk at *
                      clear hrw hrow hll
                      go_wp2_with fail
                      go_region_held3 (fun w' => w'.cell? ⟨b, o + i * 3, none⟩ = some (.slice TA tk.length tc) ∧ w'.cell? ⟨b, o + i * 3 + 1, none⟩ = some (.int .i64 sc) ∧ w'.cell? ⟨b, o + i * 3 + 2, none⟩ = some (.bool false) ∧ w'.cell? ⟨b3, o3 + lk, none⟩ = some (.slice A' row.length c')) (go_keep) ((go_at_call 55; refine (HG _ ((Upd.refl _ _).drew)).out.mono ?_; rintro e w5 ⟨u5, X5, rfl, ho5, ht5, hx5, hb5⟩; obtain ⟨bc, cap, hu5, hl5, hcs5, hrs5, ⟨t0, t1, t2⟩, t3⟩ := HOWN.out w5 u5 X5 hb5 ho5 ht5 hx5; subst hu5; have HL5 := hid_ hl5; have HCS5 := hid_ hcs5; have HRS5 := hid_ hrs5; have HX5 : Hid (bms X5 = candOf (bms X) R length stop i) := hid_ (hx5.trans HC1.out.symm); clear hl5 hcs5 hrs5 ho5 ht5 hx5 hb5))
                      go_wp2_with fail
                      go_meet
                      exact ⟨X5, _, _, row.length, by rw [HS.out]; go_num, rfl, HL5, hrow200, HRS5, HCS5, HX5⟩
                  case rest =>
                  obtain ⟨Xc, bc, cap, q, rfl, rfl, HQ, hq, HRSc, HCSc, HXc⟩ := hcut
                  have hNq : N + q < 200 := by
                    have h2 := cand_small (R := R) length stop (N := 200) (L := bms X) (by rw [bms_length]; exact HSZ.out) (i := i + 1) (by rw [bms_length]; omega)
                    rw [candTo, List.length_append, List.length_map, ← HXc.out, bms_length, HQ.out] at h2
                    have h3 : (candTo (bms X) R length stop i).length = N := by rw [← HN.out.1, ← bms_length XA, HBA.out, List.length_map]
                    omega
                  clear HRSb HCSb HTok HTr HFo d0 d1 d2 HBb hbb HRS HLS
                  obtain ⟨wq, hwq⟩ : ∃ wq : World, wq = wr := ⟨_, rfl⟩
                  go_wp2_with fail
                  go_loopw [17, 18, 19, 23] (fun av fv sv kv wx => ∃ (k : Nat) (B7 B8 B9 : Option Addr) (e7 e8 e9 M : Nat), k ≤ q ∧ M = N + k ∧ kv = .int .i64 k ∧ av = .slice B7 M e7 ∧ fv = .slice B8 M e8 ∧ sv = .slice B9 M e9 ∧
                    Hid (RS w wx (.slice B7 M e7) (.slice B8 M e8) (.slice B9 M e9) (XA ++ Xc.take k) (F ++ List.replicate k (i : Int)) ((bms (XA ++ Xc.take k)).map (·.score))) ∧ Hid (CS w.heap.size wx (.slice B7 M e7) (.slice B8 M e8) bc cap Xc)) (fun _ _ _ kv _ => q - (intOf kv).toNat)
                  case atStart => exact ⟨0, A7, A8, A9, c7, c8, c9, N, Nat.zero_le _, rfl, rfl, rfl, rfl, rfl, hid_ (by rw [List.take_zero, List.append_nil, List.replicate_zero, List.append_nil]; exact HRSc.out), HCSc⟩
                  case round =>
                    obtain ⟨k, B7, B8, B9, e7, e8, e9, M, hk, hM, rfl, rfl, rfl, rfl, HRk, HCk⟩ := hrel
                    have HM := hid_ hM
                    have hM2 : M < 200 := by omega
                    clear hM
                    by_cases hkt : k < q
                    · have hkt' : (k : Int) < (q : Int) := by omega
                      have hM3 : M + 1 ≤ N + q := by have := HM.out; omega
                      have hkl : k < Xc.length := by rw [HQ.out]; exact hkt
                      obtain ⟨y, hy⟩ : ∃ y, Xc[k]? = some y := ⟨_, List.getElem?_eq_getElem hkl⟩
                      obtain ⟨e0, e1, e2⟩ := HCk.out.at_ hy
                      have hty := HCk.out.t y (List.mem_of_getElem? hy)
                      obtain ⟨TB, tb, hv9, _, _, _⟩ := RdI.form hty.tok.rd
                      have htk1 := take_snoc_bm Xc hy
                      obtain ⟨ty, ⟨tk2, sc2, dn2⟩⟩ := y
                      simp only at e0 e1 e2 hty hv9
                      subst hv9
                      have HTY := hid_ hty
                      have HY1 := hid_ hy
                      have HTK1 := hid_ htk1
                      have HLA : Hid ((XA ++ Xc.take k).length = M) := by
                        rw [List.length_append, List.length_take, HN.out.1, HM.out]
                        show _ = _
                        omega
                      have HLF : Hid ((F ++ List.replicate k (i : Int)).length = M) := by
                        rw [List.length_append, List.length_replicate, HN.out.2, HM.out]
                        exact hid_ rfl
                      have HLS9 : Hid (((bms (XA ++ Xc.take k)).map (·.score)).length = M) := by rw [List.length_map, bms_length]; exact HLA
                      obtain ⟨XB, hXB⟩ : ∃ XB, XA ++ Xc.take k = XB := ⟨_, rfl⟩
                      obtain ⟨FB, hFB⟩ : ∃ FB, F ++ List.replicate k (i : Int) = FB := ⟨_, rfl⟩
                      rw [hXB] at HRk HLA HLS9
                      rw [hFB] at HRk HLF
                      have HXB := hid_ hXB
                      have HFB := hid_ hFB
                      have hwz := HRk.out.b.size
                      clear hy hty htk1 hXB hFB hkl
                      have hA : wr.ownsRow w.heap.size 57 3 (.slice B7 M e7) M (XB.flatMap Bx.cells) := HLA.out ▸ HRk.out.a
                      have HAa := hid_ hA
                      clear hA
                      go_wp2_with (at_builtin; refine wpList_append_own_at _ rfl (.tmp 111) (.tmp 116) 40 rfl w.heap.size 57 k0 (.agg #[.slice none 0 0, .int .i64 0, .bool false]) 3 40 Try.underlying40 hk0 kz0 kz1 kz2 rfl (by decide) _ M _ rfl (World.ownsRow.alloc HAa.out _) ⟨wr.heap.size, 0, none⟩ 1 1 [.slice TB tk2.length tb, .int .i64 sc2, .bool dn2] rfl rfl (cells_new rfl) (ones3 _ _ _ _ _) ?c3 ?c4 ?c5 ?_)
                      case c3 => unfold maxLen; omega
                      case c4 => omega
                      case c5 => first | omega | (simp; omega)
                      intro v5 w5 h5 hg5 _ hv5
                      obtain ⟨D7, f7, rfl⟩ := own_slice_ h5
                      have HR5 := hid_ (RS.addA (x := ⟨.slice TB tk2.length tb, ⟨tk2, sc2, dn2⟩⟩) HRk.out HTY.out (by rw [HLA.out]; exact h5) hg5)
                      have HC5 := hid_ (CS.addA HCk.out HAa.out hg5 (av' := .slice D7 (M + 1) f7) (by rw [World.size_alloc]; exact hv5))
                      have HFa := hid_ (show w5.ownsRow w.heap.size 3 1 (.slice B8 M e8) M (FB.map (Value.int .i64)) from HLF.out ▸ HR5.out.f)
                      have hz5 := HR5.out.b.size
                      clear h5 hg5 hv5 e0 e1 e2
                      go_wp2_with (at_builtin; refine wpList_append_own_at _ rfl (.tmp 118) (.tmp 120) 32 rfl w.heap.size 3 j0 (.int .i64 0) 1 8 Try.underlying32 hj0 jz0 jz1 jz2 rfl (by decide) _ M _ rfl (World.ownsRow.alloc HFa.out _) ⟨w5.heap.size, 0, none⟩ 1 1 [.int .i64 (i : Int)] rfl rfl (one_new rfl) (one_cell rfl) ?d3 ?d4 ?d5 ?_)
                      case d3 => unfold maxLen; omega
                      case d4 => omega
                      case d5 => first | omega | (simp; omega)
                      intro v6 w6 h6 hg6 _ hv6
                      obtain ⟨D8, f8, rfl⟩ := own_slice_ h6
                      have HR6 := hid_ (RS.addF (i := (i : Int)) HR5.out (by rw [HLF.out]; exact h6) hg6 (by rw [World.size_alloc]; exact hv6))
                      have HC6 := hid_ (CS.addF HC5.out HFa.out hg6 (fv' := .slice D8 (M + 1) f8) (by rw [World.size_alloc]; exact hv6))
                      obtain ⟨_, e1, _⟩ := HC6.out.at_ HY1.out
                      have HSa := hid_ (show w6.ownsRow w.heap.size 2 1 (.slice B9 M e9) M (((bms XB).map (·.score)).map (Value.int .i64)) from HLS9.out ▸ HR6.out.s)
                      have hz6 := HR6.out.b.size
                      clear h6 hg6 hv6
                      go_wp2_with (at_builtin; refine wpList_append_own_at _ rfl (.tmp 122) (.tmp 128) 29 rfl w.heap.size 2 l0 (.int .i64 0) 1 8 Try.underlying29 hl0 lz0 lz1 lz2 rfl (by decide) _ M _ rfl (World.ownsRow.alloc HSa.out _) ⟨w6.heap.size, 0, none⟩ 1 1 [.int .i64 sc2] rfl rfl (one_new rfl) (one_cell rfl) ?x3 ?x4 ?x5 ?_)
                      case x3 => unfold maxLen; omega
                      case x4 => omega
                      case x5 => first | omega | (simp; omega)
                      intro v7 w7 h7 hg7 _ _
                      obtain ⟨D9, f9, rfl⟩ := own_slice_ h7
                      have HR7 := hid_ (RS.addS (i := sc2) HR6.out (by rw [HLS9.out, List.map_map]; exact h7) hg7)
                      have HC7 := hid_ (CS.addS HC6.out HSa.out hg7)
                      have HRf : Hid (RS w w7 (.slice D7 (M + 1) f7) (.slice D8 (M + 1) f8) (.slice D9 (M + 1) f9) (XA ++ Xc.take (k + 1)) (F ++ List.replicate (k + 1) (i : Int)) ((bms (XA ++ Xc.take (k + 1))).map (·.score))) := by
                        rw [HTK1.out, ← List.append_assoc, HXB.out, List.replicate_succ', ← List.append_assoc, HFB.out]
                        rw [show (bms (XB ++ [⟨.slice TB tk2.length tb, ⟨tk2, sc2, dn2⟩⟩])).map (·.score) = (bms XB).map (·.score) ++ [sc2] by simp [bms]]
                        exact HR7
                      have hMk : M + 1 = N + (k + 1) := by have := HM.out; omega
                      have HMk := hid_ hMk
                      clear h7 hg7 hMk
                      go_wp2_with fail
                      go_roundw
                      case rel => exact ⟨k + 1, D7, D8, D9, f7, f8, f9, M + 1, by omega, HMk.out, by go_num, rfl, rfl, rfl, HRf, HC7⟩
                      case measure => simp [intOf]; omega
                    · obtain rfl : k = q := by omega
                      have htk : Xc.take k = Xc := by rw [← HQ.out]; exact List.take_length
                      rw [htk] at HRk
                      have HBn : Hid (bms (XA ++ Xc) = (candTo (bms X) R length stop (i + 1)).map (·.1)) := by
                        rw [candTo, List.map_append, ← HBA.out, ← HXc.out]
                        simp [bms]
                        exact hid_ trivial
                      have HFn : Hid (F ++ List.replicate k (i : Int) = (candTo (bms X) R length stop (i + 1)).map (·.2)) := by
                        rw [candTo, List.map_append, ← HFA.out, ← HXc.out, List.map_map]
                        have e : (bms Xc).map ((fun x : Bm × Int => x.2) ∘ fun b => (b, (i : Int))) = List.replicate k (i : Int) := by
                          rw [show ((fun x : Bm × Int => x.2) ∘ fun b => (b, (i : Int))) = Function.const Bm (i : Int) from rfl, List.map_const, bms_length, HQ.out]
                        rw [e]
                        exact hid_ rfl
                      have HNn : Hid ((XA ++ Xc).length = M ∧ (F ++ List.replicate k (i : Int)).length = M) := by
                        rw [List.length_append, List.length_append, List.length_replicate, HN.out.1, HN.out.2, HQ.out]
                        exact hid_ ⟨HM.out.symm, HM.out.symm⟩
                      clear htk
                      go_wp2_with fail
                      go_roundw
                      case rel => exact ⟨i + 1, XA ++ Xc, F ++ List.replicate k (i : Int), B7, B8, B9, e7, e8, e9, M, by omega, by omega, by go_num, rfl, rfl, rfl, rfl, HNn, HRk, HBn, HFn⟩
                      case measure => simp [intOf]; omega
                · obtain rfl : i = X.length := by omega
                  have hCe : candV (bms X) R length stop = candTo (bms X) R length stop X.length := by unfold candV; rw [bms_length]
                  have hCl : (candV (bms X) R length stop).length = N := by rw [hCe, ← HN.out.1, ← bms_length XA, HBA.out, List.length_map]
                  have hsc : (bms XA).map (·.score) = scoresOf (candV (bms X) R length stop) := by
                    rw [HBA.out, hCe]
                    unfold scoresOf
                    rw [List.map_map]
                    rfl
                  rw [← hCe] at HBA HFA
                  rw [hsc] at HRS
                  have HBO : Hid (bestOf (candV (bms X) R length stop) width = (order (scoresOf (candV (bms X) R length stop))).take (clamp width N)) := by unfold bestOf; rw [hCl]; exact hid_ rfl
                  have hsl : (scoresOf (candV (bms X) R length stop)).length = N := by rw [scoresOf_length, hCl]
                  have hSr : RdI wr wr.heap.size .i64 (.slice A9 N c9) (scoresOf (candV (bms X) R length stop)) := by
                    have h := Rd.of_own HRS.out.s
                    exact h
                  have hT := rtopF_any hSr (by omega) width
                  rw [hsl, ← HBO.out] at hT
                  have HT := hid_ hT
                  have hbr : ∀ x ∈ bestOf (candV (bms X) R length stop) width, 0 ≤ x ∧ x < (N : Int) := fun x hx => by
                    have h := bestOf_range hx
                    rw [hCl] at h
                    exact h
                  have hbl : (bestOf (candV (bms X) R length stop) width).length ≤ N := by rw [HBO.out, List.length_take, order_length, hsl]; omega
                  obtain ⟨C, hC⟩ : ∃ C, candV (bms X) R length stop = C := ⟨_, rfl⟩
                  rw [hC] at HBA HFA HT hbr hbl HRS hCl
                  have HCC := hid_ hC
                  obtain ⟨bo, hbo⟩ : ∃ bo, bestOf C width = bo := ⟨_, rfl⟩
                  rw [hbo] at HT hbr hbl
                  have HBo := hid_ hbo
                  have HBR := hid_ hbr
                  have HCl := hid_ hCl
                  clear hCe hsc hsl hSr hT hbr hC hbo HBO hCl hlt hi
                  go_wp2_with ((go_at_call 24); (refine HT.out.mono ?_); (rintro e w4 ⟨v4, rfl, hr4, hb4, _⟩); (have HRS4 := hid_ (HRS.out.below hb4)); (have HR4 := hid_ hr4); (clear hr4 hb4))
                  obtain ⟨A4, c4, rfl, _, _, _⟩ := RdI.form HR4.out
                  have hAL : RdBms w4 (.slice A7 N c7) XA := by
                    have h : OwnB w.heap.size w4 57 (.slice A7 N c7) XA := ⟨HRS4.out.a, fun x hx => (HRS4.out.t x hx).tok⟩
                    exact h.rd
                  have hFR : RdI w4 w4.heap.size .i64 (.slice A8 N c8) F := Rd.of_own HRS4.out.f
                  have HAL := hid_ hAL
                  have HFR := hid_ hFR
                  have HBw4 := hid_ HRS4.out.b
                  have HTKA : Hid (∀ x ∈ XA, x.b.tokens.length ≤ 200) := fun x hx => by
                    have h1 : x.b ∈ bms XA := List.mem_map.2 ⟨x, hx, rfl⟩
                    rw [HBA.out, ← HCC.out] at h1
                    obtain ⟨p, hp, h2⟩ := List.mem_map.1 h1
                    rw [← h2]
                    exact cand_tok (N := 200) (by omega) (fun b hb => by obtain ⟨y, hy, rfl⟩ := List.mem_map.1 hb; exact HTK.out y hy) _ _ hp
                  clear HT HRS HRS4 hAL hFR HX HR HALL HLV HSZ HTK
                  obtain ⟨wq, hwq⟩ : ∃ wq : World, wq = wr := ⟨_, rfl⟩
                  go_wp2_with fail
                  go_loopw [25, 26, 27] (fun ov pv tv wx => ∃ (t : Nat) (Y : List Bx) (P : List Int) (B1 B2 : Option Addr) (e1 e2 : Nat), t ≤ bo.length ∧ tv = .int .i64 t ∧ ov = .slice B1 t e1 ∧ pv = .slice B2 t e2 ∧ Hid (Y.length = t ∧ P.length = t) ∧ Hid (RS w4 wx (.slice B1 t e1) (.slice B2 t e2) (.slice none 0 0) Y P []) ∧
                    Hid (bms Y = (bo.take t).map (fun i => (pickC C i).1)) ∧ Hid (P = (bo.take t).map (fun i => (pickC C i).2))) (fun _ _ tv _ => bo.length - (intOf tv).toNat)
                  case atStart => exact ⟨0, [], [], none, none, 0, 0, Nat.zero_le _, rfl, rfl, rfl, hid_ ⟨rfl, rfl⟩, hid_ ⟨World.ownsRow_nil _ _ _ _, (fun x hx => by cases hx), World.ownsRow_nil _ _ _ _, World.ownsRow_nil _ _ _ _, Below.refl _ _⟩, hid_ rfl, hid_ rfl⟩
                  case round =>
                    obtain ⟨t, Y, P, B1, B2, e1, e2, ht, rfl, rfl, rfl, HL, HRt, HYt, HPt⟩ := hrel
                    by_cases htt : t < bo.length
                    · have htt' : (t : Int) < (bo.length : Int) := by omega
                      have hbm : bo.getD t 0 ∈ bo := by rw [List.getD_eq_getElem?_getD, List.getElem?_eq_getElem htt]; exact List.getElem_mem htt
                      obtain ⟨j, hj⟩ : ∃ j : Nat, bo.getD t 0 = (j : Int) := ⟨_, (Int.toNat_of_nonneg (HBR.out _ hbm).1).symm⟩
                      have hjN : j < N := by have := (HBR.out _ hbm).2; omega
                      obtain ⟨b1, o1, rfl, d1⟩ := rdi_cell (rdi_below HR4.out HRt.out.b) htt
                      rw [hj] at d1
                      have hY1 := take_ord htt hj (fun i => (pickC C i).1)
                      have hF1 := take_ord htt hj (fun i => (pickC C i).2)
                      have hjX : j < XA.length := by rw [HN.out.1]; exact hjN
                      obtain ⟨x, hx1, hx2, _⟩ := bx_get hjX
                      have hpk : pickC C (j : Int) = (x.b, F.getD j 0) := by
                        unfold pickC
                        rw [Int.toNat_natCast, List.getD_eq_getElem?_getD]
                        have hjC : j < C.length := by rw [HCl.out]; exact hjN
                        rw [List.getElem?_eq_getElem hjC]
                        have h1 : (bms XA)[j]? = some C[j].1 := by rw [HBA.out, List.getElem?_map, List.getElem?_eq_getElem hjC]; rfl
                        have h2 : F.getD j 0 = C[j].2 := by rw [List.getD_eq_getElem?_getD, HFA.out, List.getElem?_map, List.getElem?_eq_getElem hjC]; rfl
                        rw [hx2] at h1
                        injection h1 with h1
                        rw [h2, h1]
                        rfl
                      rw [hpk] at hY1 hF1
                      have hat := rdbms_at (rdbms_below HAL.out HRt.out.b) hx1
                      obtain ⟨b2, o2, rfl, hb2, c0, c1, c2'⟩ := hat.ex
                      obtain ⟨b3, o3, hA8, d3⟩ := rdi_cell (rdi_below HFR.out HRt.out.b) (j := j) (by rw [HN.out.2]; exact hjN)
                      subst hA8
                      have hb3 := World.block_lt_of_cell? _ _ d3
                      have hb1 := World.block_lt_of_cell? _ _ d1
                      obtain ⟨TA, tc, htx, _, _, _⟩ := RdI.form hat.tok
                      have hxt := HTKA.out x (List.mem_of_getElem? hx1)
                      obtain ⟨tx, ⟨tk, sc, dn⟩⟩ := x
                      simp only at c0 c1 c2' htx hxt hY1 hF1
                      subst htx
                      have HTr := hid_ hat.tok
                      have HFo := hid_ hat.form
                      have HY1 := hid_ hY1
                      have HF1 := hid_ hF1
                      obtain ⟨fj, hfj⟩ : ∃ fj, F.getD j 0 = fj := ⟨_, rfl⟩
                      rw [hfj] at d3 HF1
                      clear hbm hj hY1 hF1 hjX hx1 hx2 hpk hat hfj
                      have hw4 := HRt.out.b.size
                      have HK0 := hid_ (Blk.new wr 57 #[.slice TA tk.length tc, .int .i64 sc, .bool dn])
                      have HTa := hid_ (rdi_below HTr.out ((((Upd.refl (fun _ => False) wr).alloc (.cells #[.slice TA tk.length tc, .int .i64 sc, .bool dn] 57)).alloc (.cells #[] 3)).toB))
                      have HOE := hid_ (own_empty_ (wr.alloc (.cells #[.slice TA tk.length tc, .int .i64 sc, .bool dn] 57)) 3)
                      rw [World.size_alloc] at HOE
                      go_wp2_with (at_builtin; refine wpList_append_rd rfl (.tmp 146) (.tmp 148) 32 rfl (wr.heap.size + 1) 3 j0 (.int .i64 0) 8 Try.underlying32 hj0 jz0 jz1 jz2 rfl _ 0 [] rfl HOE.out _ _ (tk.map (Value.int .i64)) rfl HTa.out HFo.out (ints_one _) ?c3 ?c4 ?c5 ?_)
                      case c4 => (try simp) <;> omega
                      intro v5 w5 h5 hg5
                      obtain ⟨A5, c5, rfl⟩ := own_slice_ h5
                      have hu5 : Upd (fun _ => False) (wr.alloc (.cells #[.slice TA tk.length tc, .int .i64 sc, .bool dn] 57)) w5 := (((Upd.refl (fun _ => False) (wr.alloc (.cells #[.slice TA tk.length tc, .int .i64 sc, .bool dn] 57))).alloc _).grown hg5 (fun k hk => .inr (by
                        have h9 : some (wr.heap.size + 1) = some k := hk
                        injection h9 with h9
                        simp
                        omega)))
                      have HU5 : Hid (Upd (fun _ => False) wr w5) := ((Upd.refl _ wr).alloc _).trans hu5
                      have HK5 := hid_ (HK0.out.upd hu5 (fun h => h))
                      have HO5 : Hid (w5.ownsRow (wr.heap.size + 1) 3 1 (.slice A5 tk.length c5) tk.length (tk.map (Value.int .i64))) := h5
                      have hg5l := HK5.out.lt
                      clear h5 hg5 hu5 HOE HTa HK0
                      have HW8 : Hid (Upd (fun _ => False) wr (w5.setCell ⟨wr.heap.size, 0, none⟩ (.slice A5 tk.length c5))) := HU5.out.setCell (p := ⟨wr.heap.size, 0, none⟩) (.inr (Nat.le_refl _)) _
                      have HR8 := hid_ (HRt.out.below HW8.out.toB)
                      have HT8 : Hid (TokF w4.heap.size (w5.setCell ⟨wr.heap.size, 0, none⟩ (.slice A5 tk.length c5)) (.slice B2 t e2) (.slice A5 tk.length c5) tk) := by
                        refine .inr ⟨own_base (own_upd (S := fun k => k = wr.heap.size) HO5.out ((Upd.refl (fun k => k = wr.heap.size) w5).setCell (p := ⟨wr.heap.size, 0, none⟩) (.inl rfl) _) (fun k hk hk2 _ _ => by subst hk; omega)) (by omega), fun g hg he => ?_⟩
                        have h1 := (ownB_lt HO5.out hg).2.1
                        have h2 := (ownB_lt HRt.out.f he).1
                        omega
                      have HK8 := hid_ (HK5.out.set_ 0 (.slice A5 tk.length c5))
                      have hz8 := HW8.out.size
                      have f0 := (HK5.out.cell 0).trans rfl
                      have f1 := (HK5.out.cell 1).trans rfl
                      have f2 := (HK5.out.cell 2).trans rfl
                      have ff := fun o => HK5.out.frozen o
                      have HAq : Hid ((w5.setCell ⟨wr.heap.size, 0, none⟩ (.slice A5 tk.length c5)).ownsRow w4.heap.size 57 3 (.slice B1 t e1) t (Y.flatMap Bx.cells)) := HL.out.1 ▸ HR8.out.a
                      go_wp2_with (at_builtin; refine wpList_append_own_at _ rfl (.tmp 151) (.tmp 153) 40 rfl w4.heap.size 57 k0 (.agg #[.slice none 0 0, .int .i64 0, .bool false]) 3 40 Try.underlying40 hk0 kz0 kz1 kz2 rfl (by decide) _ t _ rfl (World.ownsRow.alloc HAq.out _) ⟨w5.heap.size, 0, none⟩ 1 1 [.slice A5 tk.length c5, .int .i64 sc, .bool dn] rfl rfl (cells_new (by simp)) (ones3 _ _ _ _ _) ?d3 ?d4 ?d5 ?_)
                      case d3 => unfold maxLen; omega
                      case d4 => omega
                      case d5 => first | omega | (simp; done) | (simp; omega)
                      intro v6 w6 h6 hg6 _ _
                      obtain ⟨D1, g1, rfl⟩ := own_slice_ h6
                      have HR6 := hid_ (RS.addA (x := ⟨.slice A5 tk.length c5, ⟨tk, sc, dn⟩⟩) HR8.out HT8.out (by rw [HL.out.1]; exact h6) hg6)
                      have HPa := hid_ (show w6.ownsRow w4.heap.size 3 1 (.slice B2 t e2) t (P.map (Value.int .i64)) from HL.out.2 ▸ HR6.out.f)
                      have HK6w : Hid (Below w4.heap.size w4 w6) := HR6.out.b
                      have hz6 := HK6w.out.size
                      have hd1 := d1
                      have hd3 := d3
                      clear h6 hg6 f0 f1 f2 ff HAq
                      have q1 : w6.cell? ⟨b1, o1 + t, none⟩ = some (.int .i64 (j : Int)) := by
                        obtain ⟨b9, o9, h9, d9⟩ := rdi_cell (rdi_below HR4.out HK6w.out) htt
                        injection h9 with h9
                        injection h9 with h9 h10 _
                        subst h9 h10
                        rw [d9]
                        have h11 := d1
                        obtain ⟨b10, o10, h12, d12⟩ := rdi_cell (rdi_below HR4.out HRt.out.b) htt
                        injection h12 with h12
                        injection h12 with h12 h13 _
                        subst h12 h13
                        rw [d12] at h11
                        exact h11
                      have q3 : w6.cell? ⟨b3, o3 + j, none⟩ = some (.int .i64 fj) := by
                        obtain ⟨b9, o9, h9, d9⟩ := rdi_cell (rdi_below HFR.out HK6w.out) (j := j) (by rw [HN.out.2]; exact hjN)
                        injection h9 with h9
                        injection h9 with h9 h10 _
                        subst h9 h10
                        rw [d9]
                        have h11 := d3
                        obtain ⟨b10, o10, h12, d12⟩ := rdi_cell (rdi_below HFR.out HRt.out.b) (j := j) (by rw [HN.out.2]; exact hjN)
                        injection h12 with h12
                        injection h12 with h12 h13 _
                        subst h12 h13
                        rw [d12] at h11
                        exact h11
                      clear hd1 hd3 d1 d3 c0 c1 c2'
                      have hjN' : (j : Int) < (N : Int) := by omega
                      go_wp2_with (at_builtin; refine wpList_append_own_at _ rfl (.tmp 155) (.tmp 163) 32 rfl w4.heap.size 3 j0 (.int .i64 0) 1 8 Try.underlying32 hj0 jz0 jz1 jz2 rfl (by decide) _ t _ rfl (World.ownsRow.alloc HPa.out _) ⟨w6.heap.size, 0, none⟩ 1 1 [.int .i64 fj] rfl rfl (one_new rfl) (one_cell rfl) ?x3 ?x4 ?x5 ?_)
                      case x3 => unfold maxLen; omega
                      case x4 => omega
                      case x5 => first | omega | (simp; done) | (simp; omega)
                      intro v7 w7 h7 hg7 _ hv7
                      obtain ⟨D2, g2, rfl⟩ := own_slice_ h7
                      have HR7 := hid_ (RS.addF (i := fj) HR6.out (by rw [HL.out.2]; exact h7) hg7 (by rw [World.size_alloc]; exact hv7))
                      have HY7 : Hid (bms (Y ++ [⟨.slice A5 tk.length c5, ⟨tk, sc, dn⟩⟩]) = (bo.take (t + 1)).map (fun i => (pickC C i).1)) := by
                        rw [HY1.out, ← HYt.out]
                        exact hid_ (by simp [bms])
                      have HP7 : Hid (P ++ [fj] = (bo.take (t + 1)).map (fun i => (pickC C i).2)) := by
                        rw [HF1.out, ← HPt.out]
                        exact hid_ rfl
                      have HL7 : Hid ((Y ++ [(⟨.slice A5 tk.length c5, ⟨tk, sc, dn⟩⟩ : Bx)]).length = t + 1 ∧ (P ++ [fj]).length = t + 1) := by
                        rw [List.length_append, List.length_append, HL.out.1, HL.out.2]
                        exact hid_ ⟨rfl, rfl⟩
                      clear h7 hg7 hv7 HPa
                      go_wp2_with fail
                      go_roundw
                      case rel => exact ⟨t + 1, Y ++ [⟨.slice A5 tk.length c5, ⟨tk, sc, dn⟩⟩], P ++ [fj], D1, D2, g1, g2, by omega, by go_num, rfl, rfl, HL7, HR7, HY7, HP7⟩
                      case measure => simp [intOf]; omega
                    · obtain rfl : t = bo.length := by omega
                      rw [List.take_length] at HYt HPt
                      have hRB : RdBms wr (.slice B1 bo.length e1) Y := by
                        have h : OwnB w4.heap.size wr 57 (.slice B1 bo.length e1) Y := ⟨HRt.out.a, fun x hx => (HRt.out.t x hx).tok⟩
                        exact h.rd
                      have hRI : RdI wr wr.heap.size .i64 (.slice B2 bo.length e2) P := Rd.of_own HRt.out.f
                      have HRB := hid_ hRB
                      have HRI := hid_ hRI
                      have HBf : Hid (Below w.heap.size w wr) := HBw4.out.trans (HRt.out.b.mono HBw4.out.size)
                      have HGB : Hid (bms Y = growB (bms X) R width length stop) := by
                        unfold growB
                        rw [if_pos HE0.out, HCC.out, HBo.out]
                        exact HYt
                      have HGF : Hid (P = growF (bms X) R width length stop) := by
                        unfold growF
                        rw [if_pos HE0.out, HCC.out, HBo.out]
                        exact HPt
                      clear hRB hRI
                      go_wp2_with fail
                      go_ret3
                      exact ⟨_, _, Y, by rw [HE0.out]; rfl, HRB.out, HGB.out, by rw [← HGF.out]; exact HRI.out, HBf.out⟩
end Go.Proofs.Ytfinbkpmkgpffaa
