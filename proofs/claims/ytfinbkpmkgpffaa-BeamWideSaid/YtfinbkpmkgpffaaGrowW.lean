/- The best of any beams with a token more, walked: the program's. Conditions: the beams and rows are read in slices, and are not many. -/
import Derived.Test.YtfinbkpmkgpffaaGrowMemB
import Derived.Deep.DeepCutAuto
import Derived.Deep.CutBlock
namespace Go.Proofs.Ytfinbkpmkgpffaa
open Go.RowKit

def GrowPost (w : World) (E : Int) (L : List Bm) (F : List Int) (e : Ending) (w' : World) : Prop :=
  ∃ v u X, e = .returned (.tuple #[v, u, .int .i64 E]) ∧ RdBms w' v X ∧ bms X = L ∧ RdI w' w'.heap.size .i64 u F ∧ Below w.heap.size w w'
theorem fitV_false {L : List Bm} {R : List (List Int)} {width : Int} (h : growE L R width ≠ 0) (h1 : 1 ≤ width) (h2 : width ≤ 4) : fitV L R = false ∧ growE L R width = 21 := by
  unfold growE at h ⊢
  rw [if_neg (by omega)] at h ⊢
  by_cases hf : fitV L R = false
  · exact ⟨hf, if_pos hf⟩
  · rw [if_neg hf] at h
    exact absurd rfl h
set_option maxHeartbeats 1600000 in
theorem grow_no {w : World} {v u : Value} {X : List Bx} {R : List (List Int)} (hx : RdBms w v X) (hr : RdRows w u R) (hn : X.length < 1000000000000000) (hm : R.length < 1000000000000000) (width length stop : Int) (hE : growE (bms X) R width ≠ 0) :
    Calls Try.prog 31 #[v, u, .int .i64 width, .int .i64 length, .int .i64 stop] w (fun e w' => e = .returned (.tuple #[.slice none 0 0, .slice none 0 0, .int .i64 (growE (bms X) R width)]) ∧ Below w.heap.size w w') := by
  by_cases h1 : width < 1
  · have e : growE (bms X) R width = 20 := by unfold growE; rw [if_pos (.inl h1)]
    rw [e]
    clear hE hx hr
    go_enter Try.func31, Try.ntmps31
    go_wp2_with fail
    go_ret3
    exact ⟨rfl, Below.refl _ _⟩
  · by_cases h2 : 4 < width
    · have e : growE (bms X) R width = 20 := by unfold growE; rw [if_pos (.inr h2)]
      rw [e]
      clear hE hx hr
      go_enter Try.func31, Try.ntmps31
      go_wp2_with fail
      go_ret3
      exact ⟨rfl, Below.refl _ _⟩
    · obtain ⟨hf, e⟩ := fitV_false hE (by omega) (by omega)
      have HF := hid_ (fit_any hx hr hn hm)
      rw [hf] at HF
      rw [e]
      clear hE hx hr hf e
      go_enter Try.func31, Try.ntmps31
      go_wp2_with ((go_at_call 49); (refine HF.out.mono ?_); (rintro e w1 ⟨rfl, hb1⟩); (have HB1 := hid_ hb1); (clear hb1))
      go_ret3
      exact ⟨rfl, HB1.out⟩
theorem below_alloc (w : World) (o : Obj) : Below w.heap.size w (w.alloc o) := ((Upd.refl (fun _ => False) w).alloc o).toB
theorem cells_new {w : World} {n : Nat} {t : TypeId} {l : List Value} (h : w.heap.size = n) : ∀ j u, l[j]? = some u → (w.alloc (.cells l.toArray t)).cell? ((⟨n, 0, none⟩ : Addr).add j) = some u := by
  intro j u hj
  subst h
  rw [addr_add_, Nat.zero_add, (Blk.new w t l.toArray).cell, List.getElem?_toArray, hj]
theorem ones4 (a : Option Addr) (n c : Nat) (s : Int) (d : Bool) (f : Int) : ∀ u ∈ [Value.slice a n c, .int .i64 s, .bool d, .int .i64 f], u.oneCell' = true := by
  intro u hu
  simp only [List.mem_cons, List.not_mem_nil, or_false] at hu
  rcases hu with rfl | rfl | rfl | rfl <;> rfl
theorem ones3 (a : Option Addr) (n c : Nat) (s : Int) (d : Bool) : ∀ u ∈ [Value.slice a n c, .int .i64 s, .bool d], u.oneCell' = true := by
  intro u hu
  simp only [List.mem_cons, List.not_mem_nil, or_false] at hu
  rcases hu with rfl | rfl | rfl <;> rfl
theorem blk_grown {W W' : World} {g t base n size : Nat} {e : TypeId} {cs : Array Value} {v : Value} {xs : List Value} {o : Obj} (h : Blk W g t cs) (ho : W.ownsRow base e size v n xs) (hne : t ≠ e) (hg : (W.alloc o).grownBy W' v.ownBlock) : Blk W' g t cs := by
  refine Blk.upd h (((Upd.refl (fun k => some k = v.ownBlock) W).alloc o).grown hg (fun k hk => .inl hk.symm)) (fun hk => ?_)
  rcases ho.2 with ⟨h0, _⟩ | ⟨g2, cap, cur, hv, _, hblk, _⟩
  · rw [h0] at hk
    cases hk
  · rw [hv] at hk
    have hg2 : g = g2 := by injection hk
    subst hg2
    exact Blk.ne_ h hblk hne rfl
theorem blk_at2 {w : World} {t : TypeId} {cs : Array Value} {k : Nat} (h : w.heap.size = k) : Blk (w.alloc (.cells cs t)) k t cs := h ▸ Blk.new w t cs
theorem own_ex2 {w : World} {base n size c : Nat} {g o : Nat} {e : TypeId} {xs : List Value} (h : w.ownsRow base e size (.slice (some ⟨g, o, none⟩) n c) n xs) : Blk.ex w g e := by
  rcases h.2 with ⟨h0, _⟩ | ⟨g2, cap, cur, hv, _, hblk, _⟩
  · cases h0
  · injection hv with hv _ _
    injection hv with hv
    injection hv with hv _ _
    subst hv
    exact ⟨_, hblk⟩
theorem own_not {W : World} {g t base n size : Nat} {e : TypeId} {cs : Array Value} {v : Value} {xs : List Value} (ho : W.ownsRow base e size v n xs) (h : Blk W g t cs) (hne : t ≠ e) (hb : v.ownBlock = some g) : False := by
  rcases ho.2 with ⟨h0, _⟩ | ⟨g2, cap, cur, hv, _, hblk, _⟩
  · rw [h0] at hb
    cases hb
  · rw [hv] at hb
    have hg2 : g2 = g := by injection hb
    subst hg2
    exact Blk.ne_ h hblk hne rfl
theorem Try.infoCand : (Try.prog.info? 73).map (fun i => (i.zero, i.size, i.bytes)) = some (some (.agg #[.slice none 0 0, .int .i64 0, .bool false, .int .i64 0]), 4, 48) := by kernel_rfl
theorem growE_run {L : List Bm} {R : List (List Int)} {width : Int} (h : growE L R width = 0) : 1 ≤ width ∧ width ≤ 4 ∧ fitV L R = true ∧ 0 < L.length ∧ liveTo L L.length = R.length ∧ allFull R = true := by
  unfold growE at h
  split at h
  · omega
  · rename_i h1
    split at h
    · omega
    · rename_i h2
      have hf : fitV L R = true := by
        cases hb : fitV L R
        · exact absurd hb h2
        · rfl
      have hf2 := hf
      unfold fitV at hf2
      rw [Bool.and_eq_true, Bool.and_eq_true, decide_eq_true_eq, decide_eq_true_eq] at hf2
      exact ⟨by omega, by omega, hf, hf2.1.1, hf2.1.2, hf2.2⟩
theorem mem_le_sum : ∀ {l : List Nat} {x : Nat}, x ∈ l → x ≤ l.sum
  | y :: l, x, h => by
    rw [List.sum_cons]
    rcases List.mem_cons.1 h with rfl | h1
    · omega
    · have := mem_le_sum h1; omega
theorem sum_take_le (l : List Nat) (k : Nat) : (l.take k).sum ≤ l.sum := by
  have h : l.sum = (l.take k).sum + (l.drop k).sum := by
    rw [← List.sum_append, List.take_append_drop]
  omega
theorem cand_small {L : List Bm} {R : List (List Int)} (length stop : Int) {N : Nat} (h : L.length + (R.map List.length).sum < N) {i : Nat} (hi : i ≤ L.length) : (candTo L R length stop i).length < N := by
  have h1 := candTo_length_le L R length stop i hi
  have h2 := sum_take_le (R.map List.length) (liveTo L i)
  rw [← List.map_take] at h2
  omega
set_option maxRecDepth 100000 in
set_option maxHeartbeats 8000000 in
theorem grow_run {w : World} {v u : Value} {X : List Bx} {R : List (List Int)} (hx : RdBms w v X) (hr : RdRows w u R) (hsz : X.length + (R.map List.length).sum < 200) (htk : ∀ x ∈ X, x.b.tokens.length < 200) (width length stop : Int) (hE : growE (bms X) R width = 0) :
    Calls Try.prog 31 #[v, u, .int .i64 width, .int .i64 length, .int .i64 stop] w (GrowPost w 0 (growB (bms X) R width length stop) (growF (bms X) R width length stop)) := by
  obtain ⟨w1, w4, hfit, hx0, hlv, hall⟩ := growE_run hE
  obtain ⟨A, c, rfl, _, _⟩ := rdbms_form hx
  obtain ⟨A2, c2, rfl, hrc, _, _⟩ := id hr
  rw [bms_length] at hx0 hlv
  have hxl : X.length < 200 := by omega
  have hRl : R.length < 200 := by have := liveTo_le (bms X) X.length; omega
  have HF := hid_ (fit_any hx hr (by omega) (by omega))
  rw [hfit] at HF
  have HX := hid_ hx
  have HR := hid_ hr
  have HLV := hid_ hlv
  have HALL := hid_ hall
  have HSZ := hid_ hsz
  have HTK := hid_ htk
  have HE := hid_ hE
  obtain ⟨k0, hk0, kz0, kz1, kz2⟩ := info_parts Try.infoCand
  obtain ⟨j0, hj0, jz0, jz1, jz2⟩ := info_parts Try.infoInt
  have h1n : ¬ width < 1 := by omega
  have h4n : ¬ 4 < width := by omega
  clear hx hr hlv hall hsz htk hE hfit
  go_enter Try.func31, Try.ntmps31
  go_wp2_with ((go_at_call 49); (refine HF.out.mono ?_); (rintro e w2 ⟨rfl, hb2⟩); (have HB2 := hid_ hb2); (clear hb2))
  clear HF
  go_loopw [1, 13, 39] (fun sv av iv wr => ∃ (i : Nat) (C : List Cx) (Aa As : Option Addr) (ca cs n : Nat), i ≤ X.length ∧ n + liveTo (bms X) i = R.length ∧ iv = .int .i64 i ∧ av = .slice Aa C.length ca ∧ sv = .slice As n cs ∧
    Hid (OwnC w.heap.size wr (.slice Aa C.length ca) C) ∧ Hid (cxs C = candTo (bms X) R length stop i) ∧ Hid (RdRows w (.slice As n cs) (R.drop (liveTo (bms X) i))) ∧ Hid (Below w.heap.size w wr)) (fun _ _ iv _ => X.length - (intOf iv).toNat)
  case atStart =>
    refine ⟨0, [], none, A2, 0, c2, R.length, Nat.zero_le _, by rw [liveTo_zero]; rfl, rfl, rfl, rfl, hid_ (OwnC.nil _ _), hid_ rfl, ?_, HB2⟩
    rw [liveTo_zero, List.drop_zero]
    exact HR
  case round =>
    obtain ⟨i, C, Aa, As, ca, cs, n, hi, hnl, rfl, rfl, rfl, HO, HC, HRS, HB⟩ := hrel
    have hCl : C.length < 200 := by
      rw [← cxs_length, HC.out]
      exact cand_small length stop (by rw [bms_length]; exact HSZ.out) (by rw [bms_length]; exact hi)
    have hBs := HB.out.size
    by_cases hlt : i < X.length
    · have hlt' : (i : Int) < (X.length : Int) := by omega
      obtain ⟨x, hx1, hx2, _⟩ := bx_get hlt
      have hat := rdbms_at (rdbms_below HX.out HB.out) hx1
      obtain ⟨b, o, rfl, hb, c0, c1, c2'⟩ := hat.ex
      obtain ⟨TA, tc, htx, _, htm, _⟩ := RdI.form hat.tok
      have hxt := HTK.out x (List.mem_of_getElem? hx1)
      have hls := liveTo_succ hx2
      have HX2 := hid_ hx2
      obtain ⟨tx, ⟨tk, sc, dn⟩⟩ := x
      simp only at c0 c1 c2' htx hxt hls
      subst htx
      have HTok : Hid (Tok w.heap.size wr (.slice TA tk.length tc) tk) := by
        obtain ⟨_, _, _, _, _, h5⟩ := id HX.out
        obtain ⟨_, h6, h7⟩ := h5 i _ hx1
        exact .inl ⟨rdi_below h6 HB.out, h7⟩
      have HLS := hid_ hls
      clear hx2 hat hls htm
      cases dn with
      | true =>
        have HC2 : Hid (cxs (C ++ [⟨.slice TA tk.length tc, ⟨tk, sc, true⟩, (i : Int)⟩]) = candTo (bms X) R length stop (i + 1)) := by
          rw [cxs_snoc, HC.out, candTo_done HX2.out rfl]
          exact hid_ rfl
        go_wp2_with (at_builtin; refine wpList_append_own _ rfl (.tmp 46) (.tmp 50) 71 rfl w.heap.size 73 k0 (.agg #[.slice none 0 0, .int .i64 0, .bool false, .int .i64 0]) 4 48 Try.underlying71 hk0 kz0 kz1 kz2 rfl (by decide) _ C.length _ rfl ((HO.out.row.alloc _).alloc _) ⟨wr.heap.size + 1, 0, none⟩ 1 1 [.slice TA tk.length tc, .int .i64 sc, .bool true, .int .i64 (i : Int)] rfl rfl (cells_new (by simp)) (ones4 _ _ _ _ _ _) ?c3 ?c4 ?c5 ?_)
        case c3 => unfold maxLen; omega
        case c4 => omega
        case c5 => first | omega | (simp; omega)
        intro v' w6 h6 hg6 _
        obtain ⟨A6, c6, rfl⟩ := own_slice_ h6
        have HO6 : Hid (OwnC w.heap.size w6 (.slice A6 (C.length + 1) c6) (C ++ [⟨.slice TA tk.length tc, ⟨tk, sc, true⟩, (i : Int)⟩])) := OwnC.add (HO.out.quiet ((Upd.refl _ _).alloc _)) (HTok.out.upd ((Upd.refl (fun _ => False) _).alloc _) (fun _ h => h.elim) (fun _ h => h.elim)) h6 hg6
        have HB6 : Hid (Below w.heap.size w w6) := (app_upd1 (World.ownsRow.alloc HO.out.row _) ((Upd.of_below (S := fun _ => False) HB.out).alloc _) (Nat.le_refl _) hg6).toB
        have hl6 : liveTo (bms X) (i + 1) = liveTo (bms X) i := by
          have := HLS.out
          simpa using this
        have HR6 : Hid (RdRows w (.slice As n cs) (R.drop (liveTo (bms X) (i + 1)))) := by
          rw [hl6]
          exact HRS
        have hn6 : n + liveTo (bms X) (i + 1) = R.length := by
          omega
        clear h6 hg6 hl6
        go_wp2_with fail
        go_roundw
        case rel => exact ⟨i + 1, C ++ [⟨.slice TA tk.length tc, ⟨tk, sc, true⟩, (i : Int)⟩], A6, As, c6, cs, n, by omega, hn6, by go_num, by rw [List.length_append]; rfl, rfl, by rw [List.length_append]; exact HO6, HC2, HR6, HB6⟩
        case measure => simp [intOf]; omega
      | false =>
        have hll := liveTo_lt HX2.out rfl
        rw [bms_length, HLV.out] at hll
        have hn0 : 0 < n := by omega
        have hn0' : (0 : Int) < (n : Int) := by omega
        have hdl : (R.drop (liveTo (bms X) i)).length = n := by rw [List.length_drop]; omega
        obtain ⟨b3, o3, A', c', rfl, hb3, d0, hrow⟩ := rdrows_at HRS.out (i := 0) (by rw [hdl]; exact hn0)
        have hge : (R.drop (liveTo (bms X) i)).getD 0 [] = R.getD (liveTo (bms X) i) [] := by rw [List.getD_eq_getElem?_getD, List.getD_eq_getElem?_getD, List.getElem?_drop, Nat.add_zero]
        rw [hge, Nat.add_zero] at d0
        rw [hge] at hrow
        have hrl : 0 < (R.getD (liveTo (bms X) i) []).length := allFull_at HALL.out hll
        have hrow200 : (R.getD (liveTo (bms X) i) []).length < 200 := by
          have h1 : (R.getD (liveTo (bms X) i) []).length ≤ (R.map List.length).sum := by
            refine mem_le_sum (List.mem_map.2 ⟨_, ?_, rfl⟩)
            rw [List.getD_eq_getElem?_getD, List.getElem?_eq_getElem hll]
            exact List.getElem_mem hll
          have := HSZ.out
          omega
        have hcl := candTo_live (R := R) (length := length) (stop := stop) HX2.out rfl
        obtain ⟨row, hrw⟩ : ∃ row, R.getD (liveTo (bms X) i) [] = row := ⟨_, rfl⟩
        rw [hrw] at d0 hrow hrl hrow200 hcl
        have HCL := hid_ hcl
        have hncs := (rdrows_len HRS.out).2.1
        have d0r : wr.cell? ⟨b3, o3, none⟩ = some (.slice A' row.length c') := (HB.out.cell (p := ⟨b3, o3, none⟩) hb3).trans d0
        have HROW := hid_ (rdi_below hrow HB.out)
        have HROWw := hid_ hrow
        have HMX := fun W (hW : Below w.heap.size w W) => hid_ (maxS_any (rdi_below HROWw.out hW) hrl)
        have hmt := max_top hrl
        obtain ⟨mx, hmx⟩ : ∃ mx, maxTo row (row.length - 1) = mx := ⟨_, rfl⟩
        rw [hmx] at hmt HMX
        have HMT := hid_ hmt
        have HCP := fun W => hid_ (clamp_any W mx)
        rw [HMT.out] at HCP
        have htp := topV_in row
        have hba : Below wr.heap.size wr (wr.alloc (.cells #[.slice TA tk.length tc, .int .i64 sc, .bool false] 55)) := ((Upd.refl (fun _ => False) wr).alloc _).toB
        have d0a := (hba.cell (p := ⟨b3, o3, none⟩) (World.block_lt_of_cell? _ _ d0r)).trans d0r
        have HBA := hid_ (HB.out.trans (hba.mono HB.out.size))
        clear hdl hge hcl hrw hrow d0 hmt hmx hba
        go_upto_region 12 with fail
        go_cut [1] (fun v1 wx => ∃ b4 o4, v1 = .slice (some ⟨b4, o4, none⟩) (n - 1) (cs - 1) ∧ Hid (1 < n → b4 = b3 ∧ o4 = o3 + 1) ∧ wx = wr.alloc (.cells #[.slice TA tk.length tc, .int .i64 sc, .bool false] 55))
        case first =>
          by_cases hcs : cs = 1
          · subst hcs
            have hn1 : n = 1 := by omega
            go_wp2_with fail
            go_meet
            exact ⟨b3, o3, by rw [hn1], hid_ (fun h => absurd h (by omega)), rfl⟩
          · go_wp2_with fail
            go_meet
            exact ⟨b3, o3 + 1, rfl, hid_ (fun _ => ⟨rfl, rfl⟩), rfl⟩
        case rest =>
          obtain ⟨b4, o4, rfl, H4, rfl⟩ := hcut
          have HR4 : Hid (RdRows w (.slice (some ⟨b4, o4, none⟩) (n - 1) (cs - 1)) ((R.drop (liveTo (bms X) i)).drop 1)) := rdrows_tail HRS.out hn0 (by omega) H4.out
          have HBK := hid_ (Blk.new wr 55 #[.slice TA tk.length tc, .int .i64 sc, .bool false])
          have HOa := hid_ (HO.out.quiet ((Upd.refl _ _).alloc (.cells #[.slice TA tk.length tc, .int .i64 sc, .bool false] 55)))
          have HTa := hid_ (HTok.out.upd ((Upd.refl (fun _ => False) wr).alloc (.cells #[.slice TA tk.length tc, .int .i64 sc, .bool false] 55)) (fun _ h => h.elim) (fun _ h => h.elim))
          have hwa : wr.heap.size < (wr.alloc (.cells #[.slice TA tk.length tc, .int .i64 sc, .bool false] 55)).heap.size := by simp
          have hgb : w.heap.size ≤ wr.heap.size := HB.out.size
          generalize (wr.alloc (.cells #[.slice TA tk.length tc, .int .i64 sc, .bool false] 55)) = wa at *
          generalize hg1 : wr.heap.size = g1 at *
          clear HO HTok d0r d0a HROW c0 c1 c2' H4
          go_wp2_with (first
            | ((go_at_call 51); (refine (HMX _ HBA.out).out.mono ?_); (rintro e w5 ⟨rfl, rfl⟩))
            | ((go_at_call 50); (refine (HCP _).out.mono ?_); (rintro e w5 ⟨rfl, rfl⟩)))
          obtain ⟨tp, htpv⟩ : ∃ tp, topV row = tp := ⟨_, rfl⟩
          have HTPV := hid_ htpv
          rw [htpv] at htp ⊢
          clear htpv
          obtain ⟨wo, hwo⟩ : ∃ wo : World, wo = wr := ⟨_, rfl⟩
          go_loopw [13, 62] (fun av jv wr2 => ∃ (j : Nat) (C2 : List Cx) (A5 : Option Addr) (c5 : Nat), j ≤ row.length ∧ jv = .int .i64 j ∧ av = .slice A5 C2.length c5 ∧ Hid (OwnC w.heap.size wr2 (.slice A5 C2.length c5) C2) ∧ Hid (cxs C2 = candTo (bms X) R length stop i ++ grownTo ⟨tk, sc, false⟩ row length stop i j) ∧ Hid (Below w.heap.size w wr2) ∧ Hid (Blk wr2 g1 55 #[.slice TA tk.length tc, .int .i64 sc, .bool false]) ∧ Hid (Tok w.heap.size wr2 (.slice TA tk.length tc) tk)) (fun _ jv _ => row.length - (intOf jv).toNat)
          case atStart => exact ⟨0, C, Aa, ca, Nat.zero_le _, rfl, rfl, HOa, hid_ (by rw [HC.out]; simp [grownTo]), HBA, HBK, HTa⟩
          case round =>
            obtain ⟨j, C2, A5, c5, hj, rfl, rfl, HO2, HC2, HBw, HBK2, HTb⟩ := hrel
            have hC2l : C2.length < 200 := by
              have h1 : C2.length = (candTo (bms X) R length stop i).length + j := by
                rw [← cxs_length, HC2.out, List.length_append]
                simp [grownTo]
              have h2 := cand_small (R := R) length stop (N := 200) (L := bms X) (by rw [bms_length]; exact HSZ.out) (i := i + 1) (by rw [bms_length]; omega)
              rw [HCL.out, List.length_append] at h2
              simp [grownTo] at h2
              omega
            have hwaz := HBw.out.size
            by_cases hjt : j < row.length
            · have hjt' : (j : Int) < (row.length : Int) := by omega
              obtain ⟨b6, o6, hA6, d6⟩ := rdi_cell (rdi_below HROWw.out HBw.out) hjt
              subst hA6
              obtain ⟨s, hs⟩ : ∃ s, row.getD j 0 = s := ⟨_, rfl⟩
              rw [hs] at d6
              have HGA : Hid (grownAt ⟨tk, sc, false⟩ row length stop j = { tokens := tk ++ [(j : Int)], score := clampV (clampV sc + clampV (clampV s - tp)), done := decide ((j : Int) = stop) || decide (length ≤ ((tk.length + 1 : Nat) : Int)) }) := by
                unfold grownAt
                rw [hs, HTPV.out]
                exact hid_ rfl
              have HCC := fun (W : World) (y : Int) => hid_ (clamp_any W y)
              have r1 := clampV_range sc
              have r2 := clampV_range s
              have r3 := clampV_range (clampV s - tp)
              have e0 := (HBK2.out.cell 0).trans rfl
              have e1 := (HBK2.out.cell 1).trans rfl
              clear hs
              have e0n : (wr.alloc (.cells #[.slice none 0 0, .int .i64 (clampV (clampV sc + clampV (clampV s - tp))), .bool false] 55)).cell? ⟨g1, 0, none⟩ = some (.slice TA tk.length tc) := ((HBK2.out.alloc _).cell 0).trans rfl
              have hgz : w.heap.size ≤ wr.heap.size := HBw.out.size
              go_wp2_with (first
                | ((go_at_call 50); (refine (HCC _ _).out.mono ?_); (rintro e w5 ⟨rfl, rfl⟩))
                | (at_builtin; refine wpList_append_rd rfl (.tmp 79) (.tmp 81) 32 rfl wr.heap.size 3 j0 (.int .i64 0) 8 Try.underlying32 hj0 jz0 jz1 jz2 rfl (.slice none 0 0) 0 [] rfl (World.ownsRow_nil _ _ _ _) wr.heap.size _ (tk.map (Value.int .i64)) rfl (rdi_below HTb.out.rd (below_alloc _ _)) HTb.out.form (ints_one _) ?c3 ?c4 ?c5 ?_))
              case c3 => unfold maxLen; (try simp) <;> omega
              case c4 => (try simp) <;> omega
              case c5 => first | omega | (simp; done) | (simp; omega)
              intro v6 w6 h6 hg6
              clear e0n r1 r2 r3
              generalize clampV (clampV sc + clampV (clampV s - tp)) = scv at *
              obtain ⟨A6, c6, rfl⟩ := own_slice_ h6
              have hu6 : Upd (fun _ => False) (wr.alloc (.cells #[.slice none 0 0, .int .i64 scv, .bool false] 55)) w6 := (Upd.refl _ _).grown hg6 (fun k hk => by cases hk)
              have HU6 : Hid (Upd (fun _ => False) wr w6) := ((Upd.refl _ wr).alloc _).trans (hu6.mono (fun _ _ h => h))
              have HBN6 : Hid (Blk w6 wr.heap.size 55 #[.slice none 0 0, .int .i64 scv, .bool false]) := Blk.upd (Blk.new wr _ _) hu6 (fun h => h)
              have HO6 := hid_ h6
              have hz6 := HU6.out.size
              clear h6 hg6 hu6
              go_wp2_with (at_builtin; refine wpList_append_own _ rfl (.tmp 82) (.tmp 84) 32 rfl wr.heap.size 3 j0 (.int .i64 0) 1 8 Try.underlying32 hj0 jz0 jz1 jz2 rfl (by decide) _ tk.length _ rfl (World.ownsRow.alloc HO6.out _) ⟨w6.heap.size, 0, none⟩ 1 1 [.int .i64 (j : Int)] rfl rfl (one_new rfl) (one_cell rfl) ?d3 ?d4 ?d5 ?_)
              case d3 => unfold maxLen; omega
              case d4 => omega
              case d5 => first | omega | (simp; omega)
              intro v7 w7 h7 hg7 _
              obtain ⟨A7, c7, rfl⟩ := own_slice_ h7
              have HU7 : Hid (Upd (fun _ => False) wr w7) := app_upd1 HO6.out HU6.out (Nat.le_refl _) hg7
              have HBN7 := hid_ (blk_grown HBN6.out HO6.out (by decide) hg7)
              have HO7 : Hid (w7.ownsRow wr.heap.size 3 1 (.slice A7 (tk.length + 1) c7) (tk ++ [(j : Int)]).length ((tk ++ [(j : Int)]).map (Value.int .i64))) := by rw [List.length_append, List.map_append]; exact h7
              have hz7 := HU7.out.size
              have hgn := HBN7.out.lt
              clear h7 hg7 HO6 HU6 HBN6 hz6
              have HOQ : Hid (∀ u0 u2, OwnC w.heap.size ((w7.setCell ⟨wr.heap.size, 0, none⟩ u0).setCell ⟨wr.heap.size, 2, none⟩ u2) (.slice A5 C2.length c5) C2 ∧ Upd (fun _ => False) wr ((w7.setCell ⟨wr.heap.size, 0, none⟩ u0).setCell ⟨wr.heap.size, 2, none⟩ u2) ∧ Tok w.heap.size ((w7.setCell ⟨wr.heap.size, 0, none⟩ u0).setCell ⟨wr.heap.size, 2, none⟩ u2) (.slice A7 (tk.length + 1) c7) (tk ++ [(j : Int)])) := fun u0 u2 => by
                have hu8 := (HU7.out.setCell (p := ⟨wr.heap.size, 0, none⟩) (.inr (Nat.le_refl _)) u0).setCell (p := ⟨wr.heap.size, 2, none⟩) (.inr (Nat.le_refl _)) u2
                refine ⟨HO2.out.quiet hu8, hu8, .inr (own_base (own_upd (S := fun k => k = wr.heap.size) HO7.out (((Upd.refl (fun k => k = wr.heap.size) w7).setCell (p := ⟨wr.heap.size, 0, none⟩) (.inl rfl) u0).setCell (p := ⟨wr.heap.size, 2, none⟩) (.inl rfl) u2) (fun k hk _ _ hb => ?_)) hgz)⟩
                subst hk
                exact own_not (HO7.out) HBN7.out (by decide) hb
              have f0 := (HBN7.out.cell 0).trans rfl
              have f1 := (HBN7.out.cell 1).trans rfl
              have f2 := (HBN7.out.cell 2).trans rfl
              have ff := fun o => HBN7.out.frozen o
              have hj1 : ((tk.length : Int) + 1) = (((tk.length + 1 : Nat)) : Int) := by omega
              have HJ1 := hid_ hj1
              obtain ⟨dd, hdd, hcase⟩ : ∃ dd, (decide ((j : Int) = stop) || decide (length ≤ ((tk.length + 1 : Nat) : Int))) = dd ∧ ((((j : Int) == stop) = true ∧ dd = true) ∨ (((j : Int) == stop) = false ∧ ((tk.length : Int) + 1 < length ∧ dd = false ∨ length ≤ (tk.length : Int) + 1 ∧ dd = true))) := by
                refine ⟨_, rfl, ?_⟩
                by_cases h1 : (j : Int) = stop
                · exact .inl ⟨beq_iff_eq.2 h1, by rw [decide_eq_true h1]; rfl⟩
                · refine .inr ⟨beq_eq_false_iff_ne.2 h1, ?_⟩
                  by_cases h2 : length ≤ (tk.length : Int) + 1
                  · exact .inr ⟨h2, by rw [decide_eq_false h1, decide_eq_true (by omega)]; rfl⟩
                  · exact .inl ⟨by omega, by rw [decide_eq_false h1, decide_eq_false (by omega)]; rfl⟩
              rw [hdd] at HGA
              have HC9 : Hid (∀ A7' c7', cxs (C2 ++ [⟨.slice A7' (tk.length + 1) c7', ⟨tk ++ [(j : Int)], scv, dd⟩, (i : Int)⟩]) = candTo (bms X) R length stop i ++ grownTo ⟨tk, sc, false⟩ row length stop i (j + 1)) := fun A7' c7' => by
                rw [cxs_snoc, HC2.out, grownTo_succ, HGA.out, List.append_assoc]
              clear hdd hj1
              have hgz7 : w.heap.size ≤ w7.heap.size := by omega
              rcases hcase with ⟨hb1, rfl⟩ | ⟨hb1, ⟨hb2, rfl⟩ | ⟨hb2, rfl⟩⟩
              all_goals
                (try have hb3 : ¬ length ≤ (tk.length : Int) + 1 := by omega)
                go_wp2_with (at_builtin; refine wpList_append_own _ rfl (.tmp 98) (.tmp 102) 71 rfl w.heap.size 73 k0 (.agg #[.slice none 0 0, .int .i64 0, .bool false, .int .i64 0]) 4 48 Try.underlying71 hk0 kz0 kz1 kz2 rfl (by decide) _ C2.length _ rfl (World.ownsRow.alloc (HOQ.out _ _).1.row _) ⟨w7.heap.size, 0, none⟩ 1 1 _ rfl rfl (cells_new (by simp)) (ones4 _ _ _ _ _ _) (by unfold maxLen; omega) (by omega) (by simp; omega) ?_)
                intro v9 w9 h9 hg9 _
                obtain ⟨A9, c9, rfl⟩ := own_slice_ h9
                have HO9 := hid_ (OwnC.add (x := ⟨.slice A7 (tk.length + 1) c7, ⟨tk ++ [(j : Int)], scv, _⟩, (i : Int)⟩) (HOQ.out _ _).1 (HOQ.out _ _).2.2 h9 hg9)
                have HB9 : Hid (Below w.heap.size w w9) := (app_upd1 (HOQ.out _ _).1.row ((Upd.of_below (S := fun _ => False) HBw.out).trans (HOQ.out _ _).2.1) (Nat.le_refl _) hg9).toB
                have HK9 := hid_ (blk_grown (HBK2.out.upd (HOQ.out _ _).2.1 (fun h => h)) (HOQ.out _ _).1.row (by decide) hg9)
                have HT9 := hid_ (Tok.grown (HTb.out.upd (HOQ.out _ _).2.1 (fun _ h => h.elim) (fun _ h => h.elim)) (HOQ.out _ _).1.row (Nat.le_refl _) (by decide) hg9)
                have HC9a := hid_ (HC9.out A7 c7)
                clear h9 hg9 HOQ HC9
                go_wp2_with fail
                go_roundw
                case rel => exact ⟨j + 1, C2 ++ [⟨.slice A7 (tk.length + 1) c7, ⟨tk ++ [(j : Int)], scv, _⟩, (i : Int)⟩], A9, c9, by omega, by go_num, by rw [List.length_append]; rfl, by rw [List.length_append]; exact HO9, HC9a, HB9, HK9, HT9⟩
                case measure => simp [intOf]; omega
            · obtain rfl : j = row.length := by omega
              have HC3 : Hid (cxs C2 = candTo (bms X) R length stop (i + 1)) := by rw [HC2.out, HCL.out]; exact hid_ rfl
              have hl7 : liveTo (bms X) (i + 1) = liveTo (bms X) i + 1 := by
                have := HLS.out
                simpa using this
              have HR7 : Hid (RdRows w (.slice (some ⟨b4, o4, none⟩) (n - 1) (cs - 1)) (R.drop (liveTo (bms X) (i + 1)))) := by
                rw [hl7, ← List.drop_drop]
                exact HR4
              have hn7 : n - 1 + liveTo (bms X) (i + 1) = R.length := by omega
              clear hl7
              go_wp2_with fail
              go_roundw
              case rel => exact ⟨i + 1, C2, A5, some ⟨b4, o4, none⟩, c5, cs - 1, n - 1, by omega, hn7, by go_num, rfl, rfl, HO2, HC3, HR7, HBw⟩
              case measure => simp [intOf]; omega
    · obtain rfl : i = X.length := by omega
      have hN0 : 0 < C.length := by
        have h := cand_pos (R := R) length stop (L := bms X) (by rw [bms_length]; exact hx0) (by rw [bms_length]; exact HLV.out) HALL.out
        unfold candV at h
        rw [bms_length, ← HC.out, cxs_length] at h
        exact h
      have HCV : Hid (candV (bms X) R length stop = cxs C) := by
        unfold candV
        rw [bms_length, HC.out]
        exact hid_ rfl
      obtain ⟨g, cg, tl, hv, hcap, hgB, hS⟩ := sorted_any HO.out hN0 (by omega)
      injection hv with hv1 _ hv2
      subst hv1 hv2
      unfold kcmpv at hS
      have hgw : Blk.ex wr g 73 := own_ex2 HO.out.row
      have HS := hid_ hS
      have hord : (order (scoresOf (cxs C))).length = C.length := by rw [order_length, scoresOf_length, cxs_length]
      have hordr : ∀ k, k < C.length → ∃ j : Nat, (order (scoresOf (cxs C))).getD k 0 = (j : Int) ∧ j < C.length := fun k hk => by
        have h := order_at (xs := scoresOf (cxs C)) (t := k) (by rw [scoresOf_length, cxs_length]; exact hk)
        rw [scoresOf_length, cxs_length] at h
        exact ⟨_, (Int.toNat_of_nonneg h.1).symm, by omega⟩
      have HB1 : Hid (bestOf (cxs C) width = (order (scoresOf (cxs C))).take (clamp width C.length)) := by unfold bestOf; rw [cxs_length]; exact hid_ rfl
      obtain ⟨ord, ho⟩ : ∃ ord, order (scoresOf (cxs C)) = ord := ⟨_, rfl⟩
      rw [ho] at HS hord hordr HB1
      have HORD := hid_ hord
      have HORR := hid_ hordr
      have HGW := hid_ hgw
      obtain ⟨m, hm⟩ : ∃ m, clamp width C.length = m := ⟨_, rfl⟩
      rw [hm] at HB1
      have hmle : m ≤ C.length := by unfold clamp at hm; omega
      have hm1 : 1 ≤ m := by unfold clamp at hm; omega
      have hmm : ((C.length : Int) < width ∧ m = C.length) ∨ (¬ (C.length : Int) < width ∧ (m : Int) = width) := by unfold clamp at hm; omega
      clear hS hgw hord hordr ho hm HC HR HRS HLV HALL
      have hmcg : m ≤ ca := by omega
      have HMK1 := fun W => make_beams W m (by omega)
      have HMK2 := fun W => make_ints W m (by omega)
      have HCUT : Hid (∀ w5 : World, Upd (fun k => k = g) wr w5 → Below w.heap.size w w5 ∧ ∀ x ∈ C, Tok w.heap.size w5 x.v x.b.tokens) := fun w5 hu => by
        refine ⟨HB.out.trans (hu.toBelow HB.out.size (fun k hk => by subst hk; exact hgB)), fun x hx => ?_⟩
        exact (HO.out.tok x hx).upd hu (fun k hk => by subst hk; exact hgB) (fun k hk hex => by subst hk; exact Blk.ex_ne HGW.out hex (by decide) rfl)
      go_upto_region 24 with ((go_at_call 52); (refine HS.out.mono ?_); (rintro e w5 ⟨rfl, hB5, hO5⟩); (have HB5 := hid_ hB5); (have HO5 : Hid (Upd (fun k => k = g) wr w5) := hO5); (clear hB5 hO5 HS))
      go_cut [13] (fun v13 wx => v13 = .slice (some ⟨g, 0, none⟩) m ca ∧ wx = w5)
      case first =>
        rcases hmm with ⟨hcw, hme⟩ | ⟨hcw, hme⟩
        · have HME := hid_ hme
          have hcw2 : ¬ width ≤ (C.length : Int) := by omega
          clear hme
          go_wp2_with fail
          go_meet
          exact ⟨by rw [HME.out], rfl⟩
        · obtain rfl : width = (m : Int) := hme.symm
          have hcw2 : m ≤ C.length := by omega
          by_cases hcw3 : C.length = m
          · subst hcw3
            go_wp2_with fail
            go_meet
            exact ⟨rfl, rfl⟩
          · have hcw4 : (m : Int) < (C.length : Int) := by omega
            go_wp2_with fail
            go_meet
            exact ⟨rfl, rfl⟩
      case rest =>
      obtain ⟨rfl, hwc⟩ := hcut
      obtain rfl : w5 = wc := hwc.symm
      clear hmm
      go_upto_region 25 with fail
      go_cut [21, 22] (fun vb vf wx => ∃ gb gf, vb = .slice (some ⟨gb, 0, none⟩) m m ∧ vf = .slice (some ⟨gf, 0, none⟩) m m ∧ gb ≠ gf ∧ w5.heap.size ≤ gb ∧ w5.heap.size ≤ gf ∧ Hid (Blk wx gb 55 (flatB (fillB [] m))) ∧ Hid (Blk wx gf 3 (rowc (fillI [] m))) ∧ Hid (Upd (fun _ => False) w5 wx))
      case first =>
        go_region
        all_goals
          go_wp2_with fail
          go_meet
        · exact ⟨w5.heap.size, w5.heap.size + 1, rfl, rfl, by omega, Nat.le_refl _, by omega, hid_ (by rw [fillB_nil]; exact Blk.drew_ ((Blk.new w5 _ _).alloc _)), hid_ (by rw [fillI_nil]; exact Blk.drew_ (blk_at2 (by simp))), hid_ ((((Upd.refl _ w5).alloc _).alloc _).drew)⟩
        · exact ⟨w5.heap.size + 1, w5.heap.size, rfl, rfl, by omega, by omega, Nat.le_refl _, hid_ (by rw [fillB_nil]; exact Blk.drew_ (blk_at2 (by simp))), hid_ (by rw [fillI_nil]; exact Blk.drew_ ((Blk.new w5 _ _).alloc _)), hid_ ((((Upd.refl _ w5).alloc _).alloc _).drew)⟩
      case rest =>
      obtain ⟨gb, gf, rfl, rfl, hgne, hgb1, hgf1, HGB, HGF, HU6⟩ := hcut
      obtain ⟨wm, hwm⟩ : ∃ wm : World, wm = wc := ⟨_, rfl⟩
      subst hwm
      have HHU : Hid (Upd (fun k => k = g) wr wm) := HO5.out.trans (HU6.out.mono (fun _ _ h => h.elim))
      have HGC : Hid (Blk wm g 73 (rowk (ktOf C tl) ord)) := HB5.out.upd HU6.out (fun h => h)
      have hgz5 := HB5.out.lt
      have HTC0 := hid_ (HCUT.out wm HHU.out)
      have hz5 : wr.heap.size ≤ w5.heap.size := HO5.out.size
      have HTC5 : Hid (∀ x ∈ C, RdI wm w5.heap.size .i64 x.v x.b.tokens ∧ Form x.v) := fun x hx => ⟨((HCUT.out w5 HO5.out).2 x hx).rd.upd HU6.out (fun _ h => h.elim), ((HCUT.out w5 HO5.out).2 x hx).form⟩
      have hgbc := HGB.out.lt
      have hgfc := HGF.out.lt
      have hgf5 := hgf1
      have hgb5 := hgb1
      have HCTK : Hid (∀ x ∈ C, x.b.tokens.length ≤ 200) := fun x hx => by
        have h1 : (x.b, x.f) ∈ cxs C := List.mem_map.2 ⟨x, hx, rfl⟩
        rw [← HCV.out] at h1
        exact cand_tok (N := 200) (by omega) (fun b hb => by obtain ⟨y, hy, rfl⟩ := List.mem_map.1 hb; exact HTK.out y hy) _ _ h1
      have hgbg : gb ≠ g := by omega
      have hgfg : gf ≠ g := by omega
      have hgbw : w.heap.size ≤ gb := by omega
      have hgfw : w.heap.size ≤ gf := by omega
      clear HCUT HHU HO5 HB5 HU6 HO hgb1 hgf1 HMK1 HMK2
      obtain ⟨wq, hwq⟩ : ∃ wq : World, wq = wr := ⟨_, rfl⟩
      go_wp2_with fail
      go_loopw [122] (fun iv wx => ∃ (k : Nat) (Y : List Bx) (F : List Int), k ≤ m ∧ iv = .int .i64 k ∧ Y.length = k ∧ F.length = k ∧ Hid (Blk wx gb 55 (flatB (fillB Y m))) ∧ Hid (Blk wx gf 3 (rowc (fillI F m))) ∧ Hid (Blk wx g 73 (rowk (ktOf C tl) ord)) ∧
        Hid (bms Y = (ord.take k).map (fun j => (pickC (cxs C) j).1)) ∧ Hid (F = (ord.take k).map (fun j => (pickC (cxs C) j).2)) ∧ Hid (∀ y ∈ Y, wx.ownsRow wm.heap.size 3 1 y.v y.b.tokens.length (y.b.tokens.map (Value.int .i64))) ∧ Hid (∀ x ∈ C, RdI wx w5.heap.size .i64 x.v x.b.tokens ∧ Form x.v) ∧ Hid (Below w.heap.size w wx) ∧ wm.heap.size ≤ wx.heap.size) (fun iv _ => m - (intOf iv).toNat)
      case atStart => exact ⟨0, [], [], Nat.zero_le _, rfl, rfl, rfl, HGB, HGF, HGC, hid_ rfl, hid_ rfl, hid_ (fun y hy => by cases hy), HTC5, hid_ HTC0.out.1, Nat.le_refl _⟩
      case round =>
        obtain ⟨k, Y, F, hkm, rfl, hYl, hFl, HKB, HKF, HKG, HKY, HKI, HKT, HKC, HKW, hkz⟩ := hrel
        by_cases hlt : k < m
        · have hlt' : (k : Int) < (m : Int) := by omega
          obtain ⟨j, hj, hjC⟩ := HORR.out k (by omega)
          have hkord : k < ord.length := by rw [HORD.out]; omega
          have hcl : ∀ q, q < 4 → wr.cell? ⟨g, k * 4 + q, none⟩ = (C[j].cells)[q]? := fun q hq => by
            rw [rowk_cell HKG.out hkord hq, hj, kt_cells (fun x hx => (HKC.out x hx).2) tl hjC]
          have hmem : C[j] ∈ C := List.getElem_mem hjC
          have hpk := pickC_at hjC
          have hY1 := take_ord hkord hj (fun j => (pickC (cxs C) j).1)
          have hF1 := take_ord hkord hj (fun j => (pickC (cxs C) j).2)
          rw [hpk] at hY1 hF1
          have hrx := HKC.out _ hmem
          have htx := HCTK.out _ hmem
          obtain ⟨x, hx⟩ : ∃ x, C[j] = x := ⟨_, rfl⟩
          rw [hx] at hcl hY1 hF1 hrx htx
          obtain ⟨TA, tc, hv9, _, _, _⟩ := RdI.form hrx.1
          obtain ⟨tx, ⟨tk, sc, dn⟩, fx⟩ := x
          simp only at hcl hY1 hF1 hrx htx hv9
          subst hv9
          have c0 := hcl 0 (by omega)
          have c1 := hcl 1 (by omega)
          have c2 := hcl 2 (by omega)
          have c3 := hcl 3 (by omega)
          simp only [Cx.cells, List.getElem?_cons_zero, List.getElem?_cons_succ, Nat.add_zero] at c0 c1 c2 c3
          have HY1 := hid_ hY1
          have HF1 := hid_ hF1
          have HRX := hid_ hrx
          clear hj hcl hmem hpk hY1 hF1 hrx hx
          go_wp2_with fail
          have hK := Blk.new wr 73 #[.slice TA tk.length tc, .int .i64 sc, .bool dn, .int .i64 fx]
          have hu1 : Upd (fun _ => False) wr (wr.alloc (.cells #[.slice TA tk.length tc, .int .i64 sc, .bool dn, .int .i64 fx] 73)) := (Upd.refl _ wr).alloc _
          obtain ⟨gc, hgc⟩ : ∃ gc, wr.heap.size = gc := ⟨_, rfl⟩
          have hgbw2 : gb < gc := by omega
          have hgfw2 : gf < gc := by omega
          rw [hgc] at hK ⊢
          generalize (wr.alloc (.cells #[.slice TA tk.length tc, .int .i64 sc, .bool dn, .int .i64 fx] 73)) = w1 at *
          have hB1 := HKB.out.upd hu1 (fun h => h)
          have hF1 := HKF.out.upd hu1 (fun h => h)
          have HG1 := hid_ (HKG.out.upd hu1 (fun h => h))
          have HU1 := hid_ hu1
          have HK1 := hid_ hK
          have HB1 := hid_ hB1
          have HF1' := hid_ hF1
          clear hK hu1 hB1 hF1 c0 c1 c2 c3
          go_cut [] (fun wx2 => Hid (Blk wx2 gb 55 (flatB (fillB (Y ++ [⟨.slice TA tk.length tc, ⟨tk, sc, dn⟩⟩]) m))) ∧ Hid (Blk wx2 gf 3 (rowc (fillI (F ++ [fx]) m))) ∧ Hid (Upd (fun q => q = gb ∨ q = gf) w1 wx2))
          case first =>
            have hfY : (fillB Y m)[k]? = some bx0 := by rw [← hYl]; exact fillB_get0 (by omega)
            have hkY : k < (fillB Y m).length := by rw [fillB_length (by omega)]; exact hlt
            have a0 := (HK1.out.cell 0).trans rfl
            have a1 := (HK1.out.cell 1).trans rfl
            have a2 := (HK1.out.cell 2).trans rfl
            have a3 := (HK1.out.cell 3).trans rfl
            obtain ⟨y0, b0⟩ := Blk.has HB1.out (i := k * 3) (by rw [flatB_size, fillB_length (by omega)]; omega)
            obtain ⟨y1, b1⟩ := Blk.has HB1.out (i := k * 3 + 1) (by rw [flatB_size, fillB_length (by omega)]; omega)
            obtain ⟨y2, b2⟩ := Blk.has HB1.out (i := k * 3 + 2) (by rw [flatB_size, fillB_length (by omega)]; omega)
            obtain ⟨y3, b3⟩ := Blk.has HF1'.out (i := k) (by rw [rowc_size, fillI_length (by omega)]; omega)
            have fb := fun o => Blk.frozen HB1.out o
            have ff := fun o => Blk.frozen HF1'.out o
            have hn1 : gf ≠ gb := fun h => hgne h.symm
            have hn2 : gc ≠ gb := by omega
            have hn3 : gc ≠ gf := by omega
            have HNE := hid_ hgne
            have HA : Hid (Blk (((((w1.setCell ⟨gb, k * 3, none⟩ (.slice TA tk.length tc)).setCell ⟨gb, k * 3 + 1, none⟩ (.int .i64 sc)).setCell ⟨gb, k * 3 + 2, none⟩ (.bool dn)).setCell ⟨gf, k, none⟩ (.int .i64 fx))) gb 55 (flatB (fillB (Y ++ [⟨.slice TA tk.length tc, ⟨tk, sc, dn⟩⟩]) m))) := by
              have h := flatB_set3 HB1.out hkY ⟨.slice TA tk.length tc, ⟨tk, sc, dn⟩⟩
              rw [show (fillB Y m).set k _ = fillB (Y ++ [⟨.slice TA tk.length tc, ⟨tk, sc, dn⟩⟩]) m by rw [← hYl]; exact fillB_set (by omega) _] at h
              exact h.far (p := ⟨gf, k, none⟩) hgne _
            have HAf : Hid (Blk (((((w1.setCell ⟨gb, k * 3, none⟩ (.slice TA tk.length tc)).setCell ⟨gb, k * 3 + 1, none⟩ (.int .i64 sc)).setCell ⟨gb, k * 3 + 2, none⟩ (.bool dn)).setCell ⟨gf, k, none⟩ (.int .i64 fx))) gf 3 (rowc (fillI (F ++ [fx]) m))) := by
              have h := rowc_set (((HF1'.out.far (p := ⟨gb, k * 3, none⟩) hn1 (.slice TA tk.length tc)).far (p := ⟨gb, k * 3 + 1, none⟩) hn1 (.int .i64 sc)).far (p := ⟨gb, k * 3 + 2, none⟩) hn1 (.bool dn)) k fx
              rw [show (fillI F m).set k fx = fillI (F ++ [fx]) m by rw [← hFl]; exact fillI_set (by omega) _] at h
              exact h
            go_region
            all_goals
              go_wp2_with fail
              go_meet
            exact ⟨Blk.drew_ HA.out, Blk.drew_ HAf.out, (((((Upd.refl (fun q => q = gb ∨ q = gf) w1).setCell (p := ⟨gb, k * 3, none⟩) (.inl (.inl rfl)) _).setCell (p := ⟨gb, k * 3 + 1, none⟩) (.inl (.inl rfl)) _).setCell (p := ⟨gb, k * 3 + 2, none⟩) (.inl (.inl rfl)) _).setCell (p := ⟨gf, k, none⟩) (.inl (.inr rfl)) _).drew⟩
          case rest =>
            obtain ⟨HB2', HF2', HU2'⟩ := hcut
            have HU3 : Hid (Upd (fun q => q = gb ∨ q = gf) wr wc) := (HU1.out.mono (fun _ _ h => h.elim)).trans HU2'.out
            have HKg := hid_ (HK1.out.upd HU2'.out (by omega))
            have HGz := hid_ (HG1.out.upd HU2'.out (by omega))
            have hz3 := HU3.out.size
            have hRX : RdI wc w5.heap.size .i64 (.slice TA tk.length tc) tk := HRX.out.1.upd HU3.out (fun q hq => by rcases hq with rfl | rfl <;> assumption)
            have HCLN := hid_ (clone_any (rdi_low hRX) HRX.out.2 (by omega))
            have hgbl := HB2'.out.lt
            have HFIN : Hid (∀ v7 w7, w7.ownsRow wc.heap.size 3 1 v7 tk.length (tk.map (Value.int .i64)) → Below wc.heap.size wc w7 →
                Blk (w7.setCell ⟨gb, k * 3, none⟩ v7) gb 55 (flatB (fillB (Y ++ [⟨v7, ⟨tk, sc, dn⟩⟩]) m)) ∧ Blk (w7.setCell ⟨gb, k * 3, none⟩ v7) gf 3 (rowc (fillI (F ++ [fx]) m)) ∧ Blk (w7.setCell ⟨gb, k * 3, none⟩ v7) g 73 (rowk (ktOf C tl) ord) ∧
                (∀ y ∈ Y ++ [⟨v7, ⟨tk, sc, dn⟩⟩], (w7.setCell ⟨gb, k * 3, none⟩ v7).ownsRow wm.heap.size 3 1 y.v y.b.tokens.length (y.b.tokens.map (Value.int .i64))) ∧ (∀ x ∈ C, RdI (w7.setCell ⟨gb, k * 3, none⟩ v7) w5.heap.size .i64 x.v x.b.tokens ∧ Form x.v) ∧ Below w.heap.size w (w7.setCell ⟨gb, k * 3, none⟩ v7) ∧ wm.heap.size ≤ (w7.setCell ⟨gb, k * 3, none⟩ v7).heap.size) := fun v7 w7 ho hb => by
              have hu7 : Upd (fun q => q = gb ∨ q = gf) wr (w7.setCell ⟨gb, k * 3, none⟩ v7) := (HU3.out.below hb).setCell (p := ⟨gb, k * 3, none⟩) (.inl (.inl rfl)) v7
              have h1 := HB2'.out.below hb hgbl
              have h2 := flatB_setv (i := k) h1 (by rw [← hYl]; exact fillB_get) v7
              rw [show (fillB (Y ++ [⟨.slice TA tk.length tc, ⟨tk, sc, dn⟩⟩]) m).set k _ = fillB (Y ++ [⟨v7, ⟨tk, sc, dn⟩⟩]) m by rw [← hYl]; exact fillB_set2] at h2
              refine ⟨h2, (HF2'.out.below hb HF2'.out.lt).far (p := ⟨gb, k * 3, none⟩) (fun h => hgne h.symm) v7, (HGz.out.below hb HGz.out.lt).far (p := ⟨gb, k * 3, none⟩) (fun h => hgbg h.symm) v7, fun y hy => ?_, fun x hx => ⟨(HKC.out x hx).1.upd hu7 (fun q hq => by rcases hq with rfl | rfl <;> assumption), (HKC.out x hx).2⟩, HKW.out.trans (hu7.toBelow HKW.out.size (fun q hq => by rcases hq with rfl | rfl <;> assumption)), Nat.le_trans hkz hu7.size⟩
              rcases List.mem_append.1 hy with h3 | h3
              · exact own_upd (HKT.out y h3) hu7 (fun q hq hq2 _ _ => by rcases hq with rfl | rfl <;> omega)
              · rw [List.mem_singleton] at h3
                subst h3
                exact own_base (own_upd (S := fun q => q = gb) ho ((Upd.refl (fun q => q = gb) w7).setCell (p := ⟨gb, k * 3, none⟩) (.inl rfl) v7) (fun q hq hq2 _ _ => by subst hq; omega)) (by omega)
            have a0 := (HKg.out.cell 0).trans rfl
            have hB3 := HB2'
            clear HU3 hRX HK1 HB1 HF1' HU1 HG1
            go_wp2_with ((go_at_call 54); (refine HCLN.out.mono ?_); (rintro e w7 ⟨v7, rfl, ho7, hb7⟩); (have HF7 := hid_ (HFIN.out v7 w7 ho7 hb7)); (obtain ⟨A7, c7, rfl⟩ := own_slice_ ho7); (obtain ⟨y7, b7⟩ := Blk.has (hB3.out.below hb7 hgbl) (i := k * 3) (by rw [flatB_size, fillB_length (by rw [List.length_append, List.length_singleton]; omega)]; omega)); (have f7 := (hB3.out.below hb7 hgbl).frozen (k * 3)); (clear ho7 hb7))
            have HYf : Hid (bms (Y ++ [⟨.slice A7 tk.length c7, ⟨tk, sc, dn⟩⟩]) = (ord.take (k + 1)).map (fun j => (pickC (cxs C) j).1)) := by
              rw [HY1.out, ← HKY.out]
              simp [bms]
              exact hid_ trivial
            have HFf : Hid (F ++ [fx] = (ord.take (k + 1)).map (fun j => (pickC (cxs C) j).2)) := by
              rw [HF1.out, ← HKI.out]
              exact hid_ rfl
            go_roundw
            case rel => exact ⟨k + 1, Y ++ [⟨.slice A7 tk.length c7, ⟨tk, sc, dn⟩⟩], F ++ [fx], by omega, by go_num, by rw [List.length_append, List.length_singleton, hYl], by rw [List.length_append, List.length_singleton, hFl], hid_ HF7.out.1, hid_ HF7.out.2.1, hid_ HF7.out.2.2.1, HYf, HFf, hid_ HF7.out.2.2.2.1, hid_ HF7.out.2.2.2.2.1, hid_ HF7.out.2.2.2.2.2.1, HF7.out.2.2.2.2.2.2⟩
            case measure => simp [intOf]; omega
        · obtain rfl : k = m := by omega
          have hfl : fillB Y k = Y := by rw [← hYl]; exact fillB_all Y
          have hfi : fillI F k = F := by rw [← hFl]; exact fillI_all F
          have hRB : RdBms wr (.slice (some ⟨gb, 0, none⟩) k k) Y := by
            have hb := HKB.out
            rw [hfl] at hb
            refine ⟨some ⟨gb, 0, none⟩, k, by rw [hYl], by omega, by unfold maxLen; omega, fun i y hy => ⟨⟨gb, 0, rfl, hb.lt, fun q u hq => ?_⟩, ?_⟩⟩
            · have hq3 : q < 3 := by
                rcases Nat.lt_or_ge q 3 with h9 | h9
                · exact h9
                · rw [List.getElem?_eq_none (by simp [Bx.cells]; omega)] at hq; cases hq
              rw [Nat.zero_add, hb.cell, flatB, List.getElem?_toArray, flat3_get Y i q y hy hq3]
              exact hq
            · have ho := HKT.out y (List.mem_of_getElem? hy)
              exact ⟨Rd.of_own ho, own_formV ho⟩
          have hRI : RdI wr wr.heap.size .i64 (.slice (some ⟨gf, 0, none⟩) k k) F := by
            have hb := HKF.out
            rw [hfi] at hb
            have h := rowc_rd hb (k := k) (c := k) (by omega) (Nat.le_refl _) (by unfold maxLen; omega)
            rw [List.take_of_length_le (by omega)] at h
            exact h
          have HRB := hid_ hRB
          have HRI := hid_ hRI
          have HGBd : Hid (bms Y = growB (bms X) R width length stop) := by
            unfold growB
            rw [if_pos HE.out, HCV.out, HB1.out, HKY.out]
            exact hid_ rfl
          have HGFd : Hid (F = growF (bms X) R width length stop) := by
            unfold growF
            rw [if_pos HE.out, HCV.out, HB1.out, HKI.out]
            exact hid_ rfl
          clear hfl hfi hRB hRI
          go_wp2_with fail
          go_ret3
          exact ⟨_, _, Y, rfl, HRB.out, HGBd.out, by rw [← HGFd.out]; exact HRI.out, HKW.out⟩
end Go.Proofs.Ytfinbkpmkgpffaa
