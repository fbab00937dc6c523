/- The library's rotation and insertion sort at a beam's candidates, walked. Conditions: the row is the whole block; the comparison turns nothing that was there, and answers by a plain function. -/
import Derived.Test.YtfinbkpmkgpffaaKSortW
import Derived.Deep.DeepCutAuto
import Derived.Deep.CutBlock
namespace Go.Proofs.Ytfinbkpmkgpffaa
open Go.RowKit

theorem val_i64 {a b : Int} (h : a = b) : Value.int .i64 a = .int .i64 b := by rw [h]
def kcmpv : Value := .func (.func 53) #[] #[]
def CmpK (kt : KT) (cf : Int → Int → Int) (dom : Int → Prop) (blk : Nat) (w : World) : Prop :=
  ∀ W, Only blk w W → ∀ x y, dom x → dom y → Calls Try.prog 53 #[.agg (kt.cells x).toArray, .agg (kt.cells y).toArray] W (fun e W' => e = .returned (.int .i64 (cf x y)) ∧ Upd (fun _ => False) W W')
theorem CmpK.next {kt : KT} {cf : Int → Int → Int} {dom : Int → Prop} {blk : Nat} {w w' : World} (h : CmpK kt cf dom blk w) (ho : Only blk w w') : CmpK kt cf dom blk w' := fun W hW => h W (ho.trans hW)
theorem kt_open (kt : KT) (u : Int) : ∃ a n c s d f, kt.cells u = [.slice a n c, .int .i64 s, .bool d, .int .i64 f] := ⟨_, _, _, _, _, _, rfl⟩
structure At4 (W : World) (b p : Nat) (a : Option Addr) (n c : Nat) (s : Int) (d : Bool) (f : Int) : Prop where
  h0 : W.cell? ⟨b, p * 4, none⟩ = some (.slice a n c)
  h1 : W.cell? ⟨b, p * 4 + 1, none⟩ = some (.int .i64 s)
  h2 : W.cell? ⟨b, p * 4 + 2, none⟩ = some (.bool d)
  h3 : W.cell? ⟨b, p * 4 + 3, none⟩ = some (.int .i64 f)
theorem rowk_cell4 {W : World} {b t p : Nat} {kt : KT} {d : List Int} {u : Int} {ua : Option Addr} {un uc : Nat} {us : Int} {ud : Bool} {uf : Int} (h : Blk W b t (rowk kt d)) (hp : p < d.length) (hu : d.getD p 0 = u) (hc : kt.cells u = [.slice ua un uc, .int .i64 us, .bool ud, .int .i64 uf]) : At4 W b p ua un uc us ud uf := by
  have c0 := rowk_cell h hp (j := 0) (by omega)
  have c1 := rowk_cell h hp (j := 1) (by omega)
  have c2 := rowk_cell h hp (j := 2) (by omega)
  have c3 := rowk_cell h hp (j := 3) (by omega)
  rw [hu, hc] at c0 c1 c2 c3
  exact ⟨c0, c1, c2, c3⟩
set_option maxHeartbeats 1600000 in
theorem krotate_any {w : World} {kt : KT} {blk c a m b : Nat} {d : List Int} {fv : Value} (h : Blk w blk 73 (rowk kt d)) (hm : d.length < 1152921504606846976) (ha : a < m) (hb : m < b) (hbl : b ≤ d.length) :
    Calls Try.prog 89 #[.slice (some ⟨blk, 0, none⟩) d.length c, .int .i64 a, .int .i64 m, .int .i64 b, fv] w (RowkPost kt w blk 73 (rot m (b - a) (m - a) (b - m) d)) := by
  have H := hid_ h
  clear h
  obtain ⟨x, hx⟩ : ∃ x : Nat, x = m - a := ⟨_, rfl⟩
  obtain ⟨y, hy⟩ : ∃ y : Nat, y = b - m := ⟨_, rfl⟩
  have x1 : (m : Int) - a = x := by omega
  have y1 : (b : Int) - m = y := by omega
  have x2 : IntKind.i64.wrap ((m : Int) - a) = x := by rw [x1]; exact w64 (by omega) (by omega)
  have y2 : IntKind.i64.wrap ((b : Int) - m) = y := by rw [y1]; exact w64 (by omega) (by omega)
  rw [← hx, ← hy]
  have HX := hid_ hx
  have HY := hid_ hy
  clear hx hy
  go_enter Try.func89, Try.ntmps89
  go_wp2_with fail
  go_loopw [10, 11] (fun i j wr => ∃ (f ki kj : Nat) (dk : List Int), 0 < ki ∧ 0 < kj ∧ ki ≤ m ∧ m + kj ≤ d.length ∧ ki + kj ≤ f ∧ i = .int .i64 ki ∧ j = .int .i64 kj ∧ dk.length = d.length ∧ Blk wr blk 73 (rowk kt dk) ∧ Only blk w wr ∧ Hid (rot m f ki kj dk = rot m (b - a) x y d)) (fun i j _ => (intOf i).toNat + (intOf j).toNat)
  case atStart =>
    have := HX.out
    have := HY.out
    exact ⟨b - a, x, y, d, by omega, by omega, by omega, by omega, by omega, rfl, rfl, rfl, H.out, Only.refl _ _, rfl⟩
  case round =>
    obtain ⟨f, ki, kj, dk, i0, j0, im, jm, hf, rfl, rfl, hl, hB, hO, HR⟩ := hrel
    have HB := hid_ hB
    have HO := hid_ hO
    clear hB hO
    obtain ⟨p, hp⟩ : ∃ p : Nat, p = m - ki := ⟨_, rfl⟩
    have p1 : (m : Int) - ki = p := by omega
    have p2 : IntKind.i64.wrap ((m : Int) - ki) = p := by rw [p1]; exact w64 (by omega) (by omega)
    have HP := hid_ hp
    clear hp
    have HL := hid_ hl
    clear hl
    by_cases he : ki = kj
    · subst he
      have hS := hid_ (fun (w : World) (h : Blk w blk 73 (rowk kt dk)) => kswapRange_any (c := c) (a := p) (b := m) (n := ki) (fv := fv) h (by rw [HL.out]; omega) (by have := HP.out; rw [HL.out]; omega) (by rw [HL.out]; omega))
      rw [HL.out] at hS
      go_wp2_with (go_at_call 94; refine (hS.out _ HB.out).mono ?_; rintro e w1 ⟨rfl, hB1, hO1⟩; (have HB1 := hid_ hB1); (have HO1 := hid_ hO1); clear hB1 hO1)
      go_end0
      have h5 := HR.out
      rw [rot_end, ← HP.out] at h5
      exact ⟨rfl, h5 ▸ HB1.out, HO.out.trans HO1.out⟩
    · have hne : ¬ (ki : Int) = (kj : Int) := by omega
      obtain ⟨f', rfl⟩ : ∃ f', f = f' + 1 := ⟨f - 1, by omega⟩
      have hR := HR.out
      rw [rot, if_neg he] at hR
      by_cases hlt : kj < ki
      · rw [if_pos hlt, ← HP.out] at hR
        have HR2 := hid_ hR
        clear hR
        have hlt' : (kj : Int) < (ki : Int) := by omega
        have hS := hid_ (fun (w : World) (h : Blk w blk 73 (rowk kt dk)) => kswapRange_any (c := c) (a := p) (b := m) (n := kj) (fv := fv) h (by rw [HL.out]; omega) (by have := HP.out; rw [HL.out]; omega) (by rw [HL.out]; omega))
        rw [HL.out] at hS
        obtain ⟨z, hz⟩ : ∃ z : Nat, z = ki - kj := ⟨_, rfl⟩
        have z1 : (ki : Int) - kj = z := by omega
        have z2 : IntKind.i64.wrap ((ki : Int) - kj) = z := by rw [z1]; exact w64 (by omega) (by omega)
        rw [← hz] at HR2
        have HZ := hid_ hz
        clear hz
        go_wp2_with (go_at_call 94; refine (hS.out _ HB.out).mono ?_; rintro e w1 ⟨rfl, hB1, hO1⟩; (have HB1 := hid_ hB1); (have HO1 := hid_ hO1); clear hB1 hO1)
        go_roundw
        case rel =>
          have := HZ.out
          exact ⟨f', z, kj, _, by omega, by omega, by omega, by omega, by omega, by first | rfl | go_num, rfl, by rw [swR_length]; exact HL.out, HB1.out, HO.out.trans HO1.out, HR2⟩
        case measure =>
          have := HZ.out
          simp [intOf]; omega
      · rw [if_neg hlt, ← HP.out] at hR
        have HR2 := hid_ hR
        clear hR
        have hlt' : (ki : Int) < (kj : Int) := by omega
        obtain ⟨q, hq⟩ : ∃ q : Nat, q = m + kj - ki := ⟨_, rfl⟩
        have q1 : (m : Int) + kj - ki = q := by omega
        have q3 : IntKind.i64.wrap ((m : Int) + kj) = (m : Int) + kj := w64 (by omega) (by omega)
        have q2 : IntKind.i64.wrap ((m : Int) + kj - ki) = q := by rw [q1]; exact w64 (by omega) (by omega)
        have hS := hid_ (fun (w : World) (h : Blk w blk 73 (rowk kt dk)) => kswapRange_any (c := c) (a := p) (b := q) (n := ki) (fv := fv) h (by rw [HL.out]; omega) (by have := HP.out; rw [HL.out]; omega) (by rw [HL.out]; omega))
        rw [HL.out] at hS
        obtain ⟨z, hz⟩ : ∃ z : Nat, z = kj - ki := ⟨_, rfl⟩
        have z1 : (kj : Int) - ki = z := by omega
        have z2 : IntKind.i64.wrap ((kj : Int) - ki) = z := by rw [z1]; exact w64 (by omega) (by omega)
        rw [← hz, ← hq] at HR2
        have HZ := hid_ hz
        have HQ := hid_ hq
        clear hz hq
        go_wp2_with (go_at_call 94; refine (hS.out _ HB.out).mono ?_; rintro e w1 ⟨rfl, hB1, hO1⟩; (have HB1 := hid_ hB1); (have HO1 := hid_ hO1); clear hB1 hO1)
        go_roundw
        case rel =>
          have := HZ.out
          exact ⟨f', ki, z, _, by omega, by omega, by omega, by omega, by omega, rfl, by first | rfl | go_num, by rw [swR_length]; exact HL.out, HB1.out, HO.out.trans HO1.out, HR2⟩
        case measure =>
          have := HZ.out
          simp [intOf]; omega
set_option maxHeartbeats 3200000 in
theorem kinsertion_any {w : World} {blk c a b : Nat} {kt : KT} {d : List Int} {cf : Int → Int → Int} {dom : Int → Prop} (h : Blk w blk 73 (rowk kt d)) (hq : CmpK kt cf dom blk w) (hd : ∀ x ∈ d, dom x) (hm : d.length < 1152921504606846976) (hab : a ≤ b) (hbl : b ≤ d.length) :
    Calls Try.prog 79 #[.slice (some ⟨blk, 0, none⟩) d.length c, .int .i64 a, .int .i64 b, kcmpv] w (RowkPost kt w blk 73 (insOut cf a (b - (a + 1)) (a + 1) d)) := by
  have H := hid_ h
  have HQ := hid_ hq
  have HD := hid_ hd
  clear h hq hd
  unfold kcmpv
  have a2 : IntKind.i64.wrap ((a : Int) + 1) = (a : Int) + 1 := w64 (by omega) (by omega)
  go_enter Try.func79, Try.ntmps79
  go_wp2_with fail
  go_loopg [8] (b - a) (fun g1 i wr => ∃ (ki n : Nat) (dk : List Int), i = .int .i64 ki ∧ a < ki ∧ ki + n = max b (a + 1) ∧ n ≤ g1 ∧ dk.length = d.length ∧ Blk wr blk 73 (rowk kt dk) ∧ Only blk w wr ∧ Hid (∀ x ∈ dk, dom x) ∧ Hid (insOut cf a n ki dk = insOut cf a (b - (a + 1)) (a + 1) d))
  case atStart => exact ⟨a + 1, b - (a + 1), d, by go_num, by omega, by omega, by omega, rfl, H.out, Only.refl _ _, HD, rfl⟩
  case round =>
    obtain ⟨ki, n, dk, rfl, hai, hin, hg, hl, hB, hO, HDk, HR⟩ := hrel
    have HB := hid_ hB
    have HO := hid_ hO
    have HL := hid_ hl
    clear hB hO hl
    by_cases hlt : ki < b
    · have hlt' : (ki : Int) < (b : Int) := by omega
      go_wp2_with fail
      go_loopg [9] ki (fun g2 j wr2 => ∃ (kj : Nat) (dj : List Int), j = .int .i64 kj ∧ a ≤ kj ∧ kj ≤ ki ∧ kj ≤ g2 ∧ dj.length = d.length ∧ Blk wr2 blk 73 (rowk kt dj) ∧ Only blk w wr2 ∧ Hid (∀ x ∈ dj, dom x) ∧ Hid (insIn cf a kj dj = insIn cf a ki dk))
      case atStart => exact ⟨ki, dk, rfl, by omega, Nat.le_refl _, Nat.le_refl _, HL.out, HB.out, HO.out, HDk, rfl⟩
      case round =>
        obtain ⟨kj, dj, rfl, haj, hji, hg2, hlj, hBj, hOj, HDj, HI⟩ := hrel
        have HBj := hid_ hBj
        have HOj := hid_ hOj
        have HLj := hid_ hlj
        clear hBj hOj hlj
        by_cases hja : a < kj
        · have hjaz : (a : Int) < (kj : Int) := by omega
          obtain ⟨jp, rfl⟩ : ∃ jp, kj = jp + 1 := ⟨kj - 1, by omega⟩
          have hj1 : jp + 1 < dj.length := by rw [HLj.out]; omega
          have lu : (jp + 1) < dj.length := hj1
          have lv : jp < dj.length := (by omega)
          have hc := fun (W : World) (hW : Upd (fun _ => False) wr W) => HQ.out W (HOj.out.trans (hW.mono (fun _ _ h => h.elim))) (dj.getD (jp + 1) 0) (dj.getD jp 0) (HDj.out _ (mem_of_getD hj1)) (HDj.out _ (mem_of_getD (i := jp) (by omega)))
          obtain ⟨u, hu⟩ : ∃ u, dj.getD (jp + 1) 0 = u := ⟨_, rfl⟩
          obtain ⟨v, hv⟩ : ∃ v, dj.getD jp 0 = v := ⟨_, rfl⟩
          obtain ⟨ua, un, uc, us, ud, uf, hcu⟩ := kt_open kt u
          obtain ⟨va, vn, vc, vs, vd, vf, hcv⟩ := kt_open kt v
          have HKU : Hid (∀ W, Blk W blk 73 (rowk kt dj) → At4 W blk (jp + 1) ua un uc us ud uf) := fun W h => rowk_cell4 h lu hu hcu
          have HKV : Hid (∀ W, Blk W blk 73 (rowk kt dj) → At4 W blk jp va vn vc vs vd vf) := fun W h => rowk_cell4 h lv hv hcv
          obtain ⟨c10, c11, c12, c13⟩ := HKU.out _ HBj.out
          obtain ⟨c20, c21, c22, c23⟩ := HKV.out _ HBj.out
          have HCU := hid_ hcu
          have HCV := hid_ hcv
          have HLU := hid_ lu
          have HLV := hid_ lv
          rw [hu, hv, hcu, hcv] at hc
          clear hcu hcv lu lv
          have hI := HI.out
          rw [insIn, hu, hv] at hI
          have HI2 := hid_ hI
          have HU := hid_ hu
          have HV := hid_ hv
          have HC := hid_ hc
          have HJ := hid_ hj1
          clear hI hu hv hc hj1
          obtain ⟨j1, hj1⟩ : ∃ j1, j1 = jp + 1 := ⟨_, rfl⟩
          rw [← hj1] at c10 c11 c12 c13 HKU HLU HU
          have HUJ := HU
          have J1 := hid_ hj1
          have hwp : IntKind.i64.wrap (jp : Int) = (jp : Int) := w64 (by omega) (by omega)
          have jz : (jp : Int) + 1 < (d.length : Int) := by omega
          have jz1 : (jp : Int) < (d.length : Int) := by omega
          have hjaz' : (a : Int) < (jp : Int) + 1 := by omega
          have p0 : (0 : Int) ≤ (jp : Int) + 1 := by omega
          have e0 : ((jp : Int) + 1).toNat = j1 := by omega
          clear hj1
          by_cases hlv : cf u v < 0
          · go_wp2_with fail
            go_region_held3 (fun w' => w'.cell? ⟨blk, j1 * 4, none⟩ = some (.slice ua un uc) ∧ w'.cell? ⟨blk, j1 * 4 + 1, none⟩ = some (.int .i64 us) ∧ w'.cell? ⟨blk, j1 * 4 + 2, none⟩ = some (.bool ud) ∧ w'.cell? ⟨blk, j1 * 4 + 3, none⟩ = some (.int .i64 uf) ∧ w'.cell? ⟨blk, jp * 4, none⟩ = some (.slice va vn vc) ∧ w'.cell? ⟨blk, jp * 4 + 1, none⟩ = some (.int .i64 vs) ∧ w'.cell? ⟨blk, jp * 4 + 2, none⟩ = some (.bool vd) ∧ w'.cell? ⟨blk, jp * 4 + 3, none⟩ = some (.int .i64 vf)) (go_keep) ((go_at_call 53; refine (HC.out _ ((Upd.refl _ _).drew)).mono ?_; rintro e w1 ⟨rfl, hu1⟩; have HU1 := hid_ (((Upd.refl (fun _ => False) wr).drew).trans hu1); have HB1 := hid_ (Blk.upd HBj.out HU1.out (fun h => h)); have HO1 := hid_ (HOj.out.trans (HU1.out.mono (fun _ _ h => h.elim))); obtain ⟨t10, t11, t12, t13⟩ := HKU.out _ HB1.out; obtain ⟨t20, t21, t22, t23⟩ := HKV.out _ HB1.out; clear hu1))
            go_wp2_with fail
            clear c10 c11 c12 c13 c20 c21 c22 c23 HC
            obtain ⟨c10, c11, c12, c13⟩ := HKU.out _ HB1.out
            obtain ⟨c20, c21, c22, c23⟩ := HKV.out _ HB1.out
            have f1 := fun o => Blk.frozen HB1.out o
            obtain ⟨⟨y0, z0⟩, ⟨y1, z1⟩, ⟨y2, z2⟩, ⟨y3, z3⟩⟩ := sets_has HB1.out (rowk_size _ _) j1 jp (by rw [HLj.out]; omega) (.slice va vn vc) (.int .i64 vs) (.bool vd) (.int .i64 vf) (.slice ua un uc) (.int .i64 us) (.bool ud)
            go_region
            all_goals go_wp2_with fail
            have hex := rowk_ex8 HB1.out HLU.out HLV.out HU.out HV.out HCU.out HCV.out
            have hex1 := hex.1
            have hex2 := HO1.out.trans hex.2
            rw [show swapAt dj j1 jp = swapAt dj (jp + 1) jp by rw [J1.out]] at hex1
            unfold ex8 at hex1 hex2
            have HX1 := hid_ hex1
            have HX2 := hid_ hex2
            clear hex hex1 hex2
            go_roundg jp
            case measure => omega
            case rel =>
              refine ⟨jp, swapAt dj (jp + 1) jp, by first | rfl | go_num, by omega, by omega, Nat.le_refl _, by rw [swapAt_length]; exact HLj.out, HX1.out, HX2.out, ?_, ?_⟩
              · exact swapAt_dom HDj.out HJ.out (by have := HJ.out; omega)
              · have h5 := HI2.out
                rw [if_pos ⟨by omega, hlv⟩] at h5
                exact h5
          · go_wp2_with fail
            go_region_held3 (fun w' => w'.cell? ⟨blk, j1 * 4, none⟩ = some (.slice ua un uc) ∧ w'.cell? ⟨blk, j1 * 4 + 1, none⟩ = some (.int .i64 us) ∧ w'.cell? ⟨blk, j1 * 4 + 2, none⟩ = some (.bool ud) ∧ w'.cell? ⟨blk, j1 * 4 + 3, none⟩ = some (.int .i64 uf) ∧ w'.cell? ⟨blk, jp * 4, none⟩ = some (.slice va vn vc) ∧ w'.cell? ⟨blk, jp * 4 + 1, none⟩ = some (.int .i64 vs) ∧ w'.cell? ⟨blk, jp * 4 + 2, none⟩ = some (.bool vd) ∧ w'.cell? ⟨blk, jp * 4 + 3, none⟩ = some (.int .i64 vf)) (go_keep) ((go_at_call 53; refine (HC.out _ ((Upd.refl _ _).drew)).mono ?_; rintro e w1 ⟨rfl, hu1⟩; have HU1 := hid_ (((Upd.refl (fun _ => False) wr).drew).trans hu1); have HB1 := hid_ (Blk.upd HBj.out HU1.out (fun h => h)); have HO1 := hid_ (HOj.out.trans (HU1.out.mono (fun _ _ h => h.elim))); obtain ⟨t10, t11, t12, t13⟩ := HKU.out _ HB1.out; obtain ⟨t20, t21, t22, t23⟩ := HKV.out _ HB1.out; clear hu1))
            go_wp2_with fail
            have h5 := HI2.out
            rw [if_neg (fun h => by have := h.2; omega)] at h5
            have HI3 := hid_ h5
            clear h5
            go_roundg (b - (ki + 1))
            case measure => omega
            case rel =>
              refine ⟨ki + 1, n - 1, dj, by first | rfl | go_num, by omega, by omega, by omega, HLj.out, HB1.out, HO1.out, HDj, ?_⟩
              have h6 := HR.out
              obtain ⟨n', rfl⟩ : ∃ n', n = n' + 1 := ⟨n - 1, by omega⟩
              rw [insOut, ← HI3.out] at h6
              exact h6
        · have hjaz : ¬ (a : Int) < (kj : Int) := by omega
          go_wp2_with fail
          go_quiet (fail)
          go_wp2_with fail
          have h5 : insIn cf a kj dj = dj := by
            cases kj with
            | zero => rfl
            | succ j => rw [insIn, if_neg (fun h => by omega)]
          have HI3 : Hid (dj = insIn cf a ki dk) := by rw [h5] at HI; exact HI
          clear h5
          go_roundg (b - (ki + 1))
          case measure => omega
          case rel =>
            refine ⟨ki + 1, n - 1, dj, by first | rfl | go_num, by omega, by omega, by omega, HLj.out, HBj.out, HOj.out.drewN _, HDj, ?_⟩
            have h6 := HR.out
            obtain ⟨n', rfl⟩ : ∃ n', n = n' + 1 := ⟨n - 1, by omega⟩
            rw [insOut, ← HI3.out] at h6
            exact h6
    · go_wp2_with fail
      go_end0
      obtain rfl : n = 0 := by omega
      have h6 := HR.out
      exact ⟨rfl, h6 ▸ HB.out, HO.out⟩
end Go.Proofs.Ytfinbkpmkgpffaa
