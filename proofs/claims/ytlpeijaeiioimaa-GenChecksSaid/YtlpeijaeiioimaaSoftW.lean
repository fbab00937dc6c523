/- Shares of one walked, the program's and the document's. Conditions: the slice reads as the numbers, which are no more than 2^32. -/
import Derived.Test.YtlpeijaeiioimaaCurveW
import Derived.Test.YtlpeijaeiioimaaPickMax
import Derived.Test.YtlpeijaeiioimaaGrow
namespace Go.Proofs.Ytlpeijaeiioimaa
open Go.RowKit


theorem Try.infoI64s : (Try.prog.info? 2).map (fun i => (i.zero, i.size, i.bytes)) = some (some (.int .i64 0), 1, 8) := by kernel_rfl
def maxTo (xs : List Int) : Nat → Int
  | 0 => xs.getD 0 0
  | k + 1 => max (maxTo xs k) (xs.getD k 0)
def topV (xs : List Int) : Int := clampV (maxTo xs xs.length)
def expL (xs : List Int) : List Int := xs.map (fun x => expV (clampV x - topV xs))
def accTo (l : List Int) : Nat → Int
  | 0 => 0
  | k + 1 => accTo l k + l.getD k 0
def softV (xs : List Int) : List Int := (expL xs).map (fun e => divV e (accTo (expL xs) xs.length))
theorem expL_length (xs : List Int) : (expL xs).length = xs.length := by simp [expL]
theorem softV_length (xs : List Int) : (softV xs).length = xs.length := by simp [softV, expL]
theorem expL_at (xs : List Int) {k : Nat} (hk : k < xs.length) : (expL xs).getD k 0 = expV (clampV (xs.getD k 0) - topV xs) := by
  rw [expL, List.getD_eq_getElem?_getD, List.getD_eq_getElem?_getD, List.getElem?_map, List.getElem?_eq_getElem hk]
  rfl
theorem expL_range (xs : List Int) (k : Nat) : 0 ≤ (expL xs).getD k 0 ∧ (expL xs).getD k 0 ≤ 65536 := by
  rcases Nat.lt_or_ge k xs.length with h | h
  · rw [expL_at xs h]
    exact expV_range _
  · rw [List.getD_eq_getElem?_getD, List.getElem?_eq_none (by rw [expL_length]; exact h)]
    exact ⟨by decide, by decide⟩
theorem accTo_range (xs : List Int) : ∀ k : Nat, 0 ≤ accTo (expL xs) k ∧ accTo (expL xs) k ≤ 65536 * (k : Int)
  | 0 => by simp [accTo]
  | k + 1 => by
    have h1 := accTo_range xs k
    have h2 := expL_range xs k
    rw [accTo]
    omega
theorem clampV_max (a b : Int) : clampV (max a b) = max (clampV a) (clampV b) := by unfold clampV; omega

set_option maxHeartbeats 800000 in
theorem smax_any {w : World} {B : Nat} {A : Option Addr} {n c : Nat} {xs : List Int} (hx : RdI w B .i64 (.slice A n c) xs) (h0 : 0 < n) :
    Calls Try.prog 81 #[.slice A n c] w (fun e w' => e = .returned (.int .i64 (maxTo xs n)) ∧ w = w') := by
  obtain ⟨hl, hc, hm⟩ := rdi_len hx
  unfold maxLen at hm
  have Hx := hid_ hx
  have HL := hid_ hl
  obtain ⟨b, o, rfl, c0⟩ := rdi_cell (j := 0) hx (by rw [hl]; exact h0)
  rw [Nat.add_zero] at c0
  have hs : maxTo xs 1 = xs.getD 0 0 := by rw [maxTo, maxTo]; exact Int.max_self _
  have HS := hid_ hs
  clear hx hl hs
  generalize xs.getD 0 0 = x0 at *
  have h1 : ¬ (n : Int) < 1 := by omega
  go_enter Try.func81, Try.ntmps81
  go_wp2_with fail
  go_loop [3, 4] (fun m i => ∃ k : Nat, 1 ≤ k ∧ k ≤ n ∧ i = .int .i64 k ∧ m = .int .i64 (maxTo xs k)) (fun _ i => n - (intOf i).toNat)
  case atStart => exact ⟨1, Nat.le_refl _, h0, rfl, by rw [HS.out]⟩
  case round =>
    obtain ⟨k, hk0, hk, rfl, rfl⟩ := hrel
    by_cases hlt : k < n
    · have hlt' : (k : Int) < (n : Int) := by omega
      obtain ⟨b1, o1, e1, c1⟩ := rdi_cell (j := k) Hx.out (by rw [HL.out]; exact hlt)
      injection e1 with e1
      injection e1 with e1 e2
      subst e1 e2
      have hs : maxTo xs (k + 1) = max (maxTo xs k) (xs.getD k 0) := rfl
      have HS2 := hid_ hs
      clear hs
      generalize xs.getD k 0 = y at *
      generalize maxTo xs k = m at *
      by_cases hmy : m < y
      · go_wp2_with fail
        go_round
        case rel => exact ⟨k + 1, by omega, by omega, by go_num, by rw [HS2.out, Int.max_eq_right (by omega)]⟩
        case measure => simp [intOf]; omega
      · go_wp2_with fail
        go_round
        case rel => exact ⟨k + 1, by omega, by omega, by go_num, by rw [HS2.out, Int.max_eq_left (by omega)]⟩
        case measure => simp [intOf]; omega
    · obtain rfl : k = n := by omega
      go_wp2_with fail
      go_ret
      exact ⟨rfl, rfl⟩

theorem make_i64s (w : World) (n : Nat) (hn : n ≤ 4294967296) : (Instr.makeSlice 23 (.int .i64 (n : Int)) (.int .i64 (n : Int))).run Try.prog w = .ok (.slice (some ⟨w.heap.size, 0, none⟩) n n) (w.alloc (.cells (rowc (List.replicate n 0)) 2)) := by
  obtain ⟨i0, hi0, hz0, hz1, hz2⟩ := info_parts Try.infoI64s
  have h := run_make (P := Try.prog) w 23 2 i0 _ Try.underlying23 hi0 hz0 .i64 .i64 (n : Int) (n : Int) (by omega) (by omega) (by rw [hz2]; omega) (by omega)
  have e : madeCells (Value.cells (.int .i64 0)) ((n : Int).toNat * i0.size) = rowc (List.replicate n 0) := by
    rw [hz1, Nat.mul_one, Int.toNat_natCast]
    apply Array.ext
    · simp [madeCells, rowc]
    · intro j h1 h2
      simp [madeCells, rowc, Value.cells, Nat.mod_one]
  rw [h, e, Int.toNat_natCast]
/-- the first k of l, then noughts -/
def fillL (l : List Int) (n k : Nat) : List Int := l.take k ++ List.replicate (n - k) 0
theorem fillL_length {l : List Int} {n k : Nat} (h : l.length = n) (hk : k ≤ n) : (fillL l n k).length = n := by simp [fillL]; omega
theorem fillL_all {l : List Int} {n : Nat} (h : l.length = n) : fillL l n n = l := by subst h; simp [fillL]
theorem fillL_zero (l : List Int) (n : Nat) : fillL l n 0 = List.replicate n 0 := by simp [fillL]
theorem fillL_step {l : List Int} {n k : Nat} (h : l.length = n) (hk : k < n) : (fillL l n k).set k (l.getD k 0) = fillL l n (k + 1) := by
  obtain ⟨q, hq⟩ : ∃ q, n - k = q + 1 := ⟨n - k - 1, by omega⟩
  have e : n - (k + 1) = q := by omega
  have hl : (l.take k).length = k := by rw [List.length_take]; omega
  rw [fillL, fillL, hq, e, List.replicate_succ, set_mid _ _ _ _ hl.symm, List.take_succ_eq_append_getElem (by omega), List.append_assoc, List.getD_eq_getElem?_getD, List.getElem?_eq_getElem (by omega)]
  rfl

def SoftPost (w : World) (l : List Int) (e : Ending) (w' : World) : Prop := ∃ A c, e = .returned (.slice A l.length c) ∧ w'.ownsRow w.heap.size 2 1 (.slice A l.length c) l.length (l.map (Value.int .i64)) ∧ Below w.heap.size w w'
theorem own_rowc {w : World} {base b n : Nat} {t : TypeId} {d : List Int} (h : Blk w b t (rowc d)) (hb : base ≤ b) (hn : d.length = n) (hm : n ≤ maxLen) : w.ownsRow base t 1 (.slice (some ⟨b, 0, none⟩) n n) n (d.map (Value.int .i64)) := by
  subst hn
  refine ⟨by simp, .inr ⟨b, d.length, rowc d, rfl, hb, h, Nat.le_refl _, hm, by simp [rowc], by simp only [rowc]; exact List.take_of_length_le (by simp)⟩⟩

set_option maxRecDepth 100000 in
set_option maxHeartbeats 3200000 in
theorem soft_any {w : World} {B : Nat} {v : Value} {xs : List Int} (hx : RdI w B .i64 v xs) (hn : xs.length ≤ 4294967296) :
    Calls Try.prog 56 #[v] w (SoftPost w (softV xs)) := by
  obtain ⟨A, c, hv, hq1, hq2, hq3⟩ := hx.form
  clear hq1 hq2 hq3
  obtain ⟨n, hnn⟩ : ∃ n, xs.length = n := ⟨_, rfl⟩
  rw [hnn] at hv hn
  subst hv
  obtain ⟨hll, hc, hm⟩ := rdi_len hx
  clear hll
  unfold maxLen at hm
  by_cases h0 : n = 0
  · subst h0
    have e : softV xs = [] := by rw [List.length_eq_zero_iff.1 hnn]; rfl
    rw [e]
    clear hx hnn
    go_enter Try.func56, Try.ntmps56
    go_wp2_with fail
    go_ret
    exact ⟨none, 0, rfl, World.ownsRow_nil _ _ _ _, Below.refl _ _⟩
  have h00 : 0 < n := by omega
  have hz : ((n : Int) == 0) = false := by rw [beq_eq_false_iff_ne]; omega
  have hmx := hid_ (smax_any hx h00)
  have hmk := fun w => make_i64s w n hn
  have Hx := hid_ hx
  have HN := hid_ hnn
  have hr1 := clampV_range (maxTo xs n)
  have HT : Hid (clampV (maxTo xs n) = topV xs) := by show _ = _; rw [topV, hnn]
  have HEL : Hid ((expL xs).length = n) := by show _ = _; rw [expL_length, hnn]
  have HV : Hid (softV xs = (expL xs).map (fun e => divV e (accTo (expL xs) n))) := by show _ = _; rw [softV, hnn]
  clear hx hnn
  go_enter Try.func56, Try.ntmps56
  go_wp2_with (first
    | ((go_at_call 81); (refine hmx.out.mono ?_); (rintro e w1 ⟨rfl, rfl⟩))
    | ((go_at_call 50); (refine (clamp_any _ _).mono ?_); (rintro e w1 ⟨rfl, rfl⟩)))
  generalize clampV (maxTo xs n) = top at *
  clear hmk hmx
  go_loopw [5, 19] (fun a i wr => ∃ k : Nat, k ≤ n ∧ i = .int .i64 k ∧ a = .int .i64 (accTo (expL xs) k) ∧ Hid (Blk wr w.heap.size 2 (rowc (fillL (expL xs) n k))) ∧ Hid (Upd (fun _ => False) w wr)) (fun _ i _ => n - (intOf i).toNat)
  case atStart => exact ⟨0, Nat.zero_le _, rfl, rfl, hid_ (by rw [fillL_zero]; exact Blk.new _ _ _), hid_ ((Upd.refl _ w).alloc _)⟩
  case round =>
    obtain ⟨k, hk, rfl, rfl, HB, HU⟩ := hrel
    by_cases hlt : k < n
    · have hlt' : (k : Int) < (n : Int) := by omega
      have hkx : k < xs.length := by rw [HN.out]; exact hlt
      obtain ⟨b, o, rfl, c1⟩ := rdi_cell (rdi_below Hx.out HU.out.toB) hkx
      have hcl := clampV_range (xs.getD k 0)
      have hat := expL_at xs hkx
      rw [← HT.out] at hat
      have hst : accTo (expL xs) (k + 1) = accTo (expL xs) k + (expL xs).getD k 0 := rfl
      have hfs := fillL_step HEL.out hlt
      rw [hat] at hst hfs
      have hac := accTo_range xs k
      have her := expV_range (clampV (xs.getD k 0) - top)
      have c2 := rowc_cell HB.out (i := k) (by rw [fillL_length HEL.out hk]; exact hlt)
      have f2 := HB.out.frozen k
      have HST := hid_ hst
      have HFS := hid_ hfs
      clear hat hst hfs hkx
      generalize xs.getD k 0 = x at *
      generalize accTo (expL xs) k = acc at *
      go_wp2_with (first
        | ((go_at_call 50); (refine (clamp_any _ _).mono ?_); (rintro e w1 ⟨rfl, rfl⟩))
        | ((go_at_call 82); (refine (exp_any _ _).mono ?_); (rintro e w1 ⟨rfl, rfl⟩)))
      go_roundw
      case rel => exact ⟨k + 1, by omega, by go_num, by rw [HST.out], hid_ (by rw [← HFS.out]; exact rowc_set HB.out k _), hid_ (HU.out.setCell (p := ⟨w.heap.size, k, none⟩) (.inr (Nat.le_refl _)) _)⟩
      case measure => simp [intOf]; omega
    · obtain rfl : k = n := by omega
      have hB := HB.out
      rw [fillL_all HEL.out] at hB
      have HB0 := hid_ hB
      have hal := accTo_range xs k
      have HV2 := HV.out
      generalize accTo (expL xs) k = al at *
      have HV3 := hid_ HV2
      clear HV2 HV hB
      generalize expL xs = el at *
      go_wp2_with fail
      go_loopw [42] (fun i wr => ∃ j : Nat, j ≤ k ∧ i = .int .i64 j ∧ Hid (Blk wr w.heap.size 2 (rowc (mapTo (fun e => divV e al) el j))) ∧ Hid (Upd (fun _ => False) w wr)) (fun i _ => k - (intOf i).toNat)
      case atStart => exact ⟨0, Nat.zero_le _, rfl, by rw [mapTo_zero]; exact HB0, HU⟩
      case round =>
        obtain ⟨j, hj, rfl, HBj, HUj⟩ := hrel
        by_cases hlt2 : j < k
        · have hlt2' : (j : Int) < (k : Int) := by omega
          have hje : j < el.length := by rw [HEL.out]; exact hlt2
          have hms := mapTo_set (fun e => divV e al) el hje
          have c2 := rowc_cell HBj.out (i := j) (by rw [mapTo_length]; exact hje)
          have hat : (mapTo (fun e => divV e al) el j).getD j 0 = el.getD j 0 := by
            rw [List.getD_eq_getElem?_getD, List.getD_eq_getElem?_getD, mapTo_at _ _ hje]
          rw [hat] at c2
          have f2 := HBj.out.frozen j
          have HMS := hid_ hms
          clear hat hms hje
          generalize el.getD j 0 = y at *
          go_wp2_with ((go_at_call 83); (refine (div_any _ _ _).mono ?_); (rintro e w1 ⟨rfl, rfl⟩))
          go_roundw
          case rel => exact ⟨j + 1, by omega, by go_num, hid_ (by rw [← HMS.out]; exact rowc_set HBj.out j _), hid_ (HUj.out.setCell (p := ⟨w.heap.size, j, none⟩) (.inr (Nat.le_refl _)) _)⟩
          case measure => simp [intOf]; omega
        · obtain rfl : j = k := by omega
          have hB := HBj.out
          rw [← HEL.out, mapTo_all, ← HV3.out] at hB
          have HB9 := hid_ hB
          have HSL := hid_ (softV_length xs)
          clear hB
          go_wp2_with fail
          go_ret
          have hl9 : (softV xs).length = j := by rw [HSL.out, HN.out]
          exact ⟨some ⟨w.heap.size, 0, none⟩, j, by rw [hl9]; rfl, by rw [hl9]; exact own_rowc HB9.out (Nat.le_refl _) hl9 (by unfold maxLen; omega), HUj.out.toB⟩

def tTo (xs : List Int) : Nat → Int
  | 0 => -4611686018427387904
  | k + 1 => max (tTo xs k) (clampV (xs.getD k 0))
theorem tTo_eq (xs : List Int) : ∀ k, 0 < k → tTo xs k = clampV (maxTo xs k)
  | 0, h => by omega
  | 1, _ => by
    rw [tTo, tTo, maxTo, maxTo, Int.max_self]
    have := clampV_range (xs.getD 0 0)
    omega
  | k + 2, _ => by
    show max (tTo xs (k + 1)) (clampV (xs.getD (k + 1) 0)) = clampV (max (maxTo xs (k + 1)) (xs.getD (k + 1) 0))
    rw [tTo_eq xs (k + 1) (by omega), clampV_max]
theorem tTo_range (xs : List Int) (k : Nat) : -4611686018427387904 ≤ tTo xs k ∧ tTo xs k ≤ 2147483647 := by
  induction k with
  | zero => rw [tTo]; omega
  | succ k ih => have := clampV_range (xs.getD k 0); rw [tTo]; omega
theorem take_map_succ (f : Int → Int) (l : List Int) {k : Nat} (hk : k < l.length) : (l.take (k + 1)).map f = (l.take k).map f ++ [f (l.getD k 0)] := by
  rw [List.take_succ_eq_append_getElem hk, List.map_append, List.getD_eq_getElem?_getD, List.getElem?_eq_getElem hk]
  rfl
theorem take_snoc_ (l : List Int) {k : Nat} (hk : k < l.length) : l.take (k + 1) = l.take k ++ [l.getD k 0] := by
  rw [List.take_succ_eq_append_getElem hk, List.getD_eq_getElem?_getD, List.getElem?_eq_getElem hk]
  rfl

set_option maxRecDepth 100000 in
set_option maxHeartbeats 3200000 in
theorem rsoft_any {w : World} {B : Nat} {v : Value} {xs : List Int} (hx : RdI w B .i64 v xs) (hn : xs.length ≤ 4294967296) :
    Calls Try.prog 58 #[v] w (SoftPost w (softV xs)) := by
  obtain ⟨i0, hi0, hz0, hz1, hz2⟩ := info_parts Try.infoI64s
  obtain ⟨A, c, hv, hq1, hq2, hq3⟩ := hx.form
  clear hq1 hq2 hq3
  obtain ⟨n, hnn⟩ : ∃ n, xs.length = n := ⟨_, rfl⟩
  rw [hnn] at hv hn
  subst hv
  obtain ⟨hll, hc, hm⟩ := rdi_len hx
  clear hll
  unfold maxLen at hm
  have Hx := hid_ hx
  have HN := hid_ hnn
  have HT : Hid (0 < n → tTo xs n = topV xs) := fun h => by rw [tTo_eq xs n h, topV, hnn]
  have HEL : Hid ((expL xs).length = n) := by show _ = _; rw [expL_length, hnn]
  have HV : Hid (softV xs = (expL xs).map (fun e => divV e (accTo (expL xs) n))) := by show _ = _; rw [softV, hnn]
  clear hx hnn
  go_enter Try.func58, Try.ntmps58
  go_wp2_with fail
  go_loop [3, 4] (fun t i => ∃ k : Nat, k ≤ n ∧ i = .int .i64 k ∧ t = .int .i64 (tTo xs k)) (fun _ i => n - (intOf i).toNat)
  case atStart => exact ⟨0, Nat.zero_le _, rfl, rfl⟩
  case round =>
    obtain ⟨k, hk, rfl, rfl⟩ := hrel
    by_cases hlt : k < n
    · have hlt' : (k : Int) < (n : Int) := by omega
      obtain ⟨b, o, rfl, c1⟩ := rdi_cell Hx.out (by rw [HN.out]; exact hlt)
      have hs : tTo xs (k + 1) = max (tTo xs k) (clampV (xs.getD k 0)) := rfl
      have HS := hid_ hs
      clear hs
      generalize xs.getD k 0 = x at *
      generalize tTo xs k = t at *
      by_cases hmy : t < clampV x
      · go_wp2_with ((go_at_call 53); (refine (rclamp_any _ _).mono ?_); (rintro e w1 ⟨rfl, rfl⟩))
        go_round
        case rel => exact ⟨k + 1, by omega, by go_num, by rw [HS.out, Int.max_eq_right (by omega)]⟩
        case measure => simp [intOf]; omega
      · go_wp2_with ((go_at_call 53); (refine (rclamp_any _ _).mono ?_); (rintro e w1 ⟨rfl, rfl⟩))
        go_round
        case rel => exact ⟨k + 1, by omega, by go_num, by rw [HS.out, Int.max_eq_left (by omega)]⟩
        case measure => simp [intOf]; omega
    · obtain rfl : k = n := by omega
      clear hlt
      have htr := tTo_range xs k
      generalize tTo xs k = top at *
      go_wp2_with fail
      go_loopg [5, 6, 7] k (fun g sv ev iv wr => ∃ (i c2 : Nat) (A2 : Option Addr), i ≤ k ∧ k ≤ g + i ∧ iv = .int .i64 i ∧ sv = .int .i64 (accTo (expL xs) i) ∧ ev = .slice A2 i c2 ∧ Hid (wr.ownsRow w.heap.size 2 1 (.slice A2 i c2) i (((expL xs).take i).map (Value.int .i64))) ∧ Hid (Upd (fun _ => False) w wr))
      case atStart => exact ⟨0, 0, none, Nat.zero_le _, by omega, rfl, rfl, rfl, hid_ (World.ownsRow_nil _ _ _ _), hid_ (Upd.refl _ _)⟩
      case round =>
        obtain ⟨i, c2, A2, him, hg, rfl, rfl, rfl, HO, HU⟩ := hrel
        by_cases hlt : i < k
        · have hlt' : (i : Int) < (k : Int) := by omega
          have hkx : i < xs.length := by rw [HN.out]; exact hlt
          obtain ⟨b, o, rfl, c1⟩ := rdi_cell (rdi_below Hx.out HU.out.toB) hkx
          have hcl := clampV_range (xs.getD i 0)
          have hat := expL_at xs hkx
          have hst : accTo (expL xs) (i + 1) = accTo (expL xs) i + (expL xs).getD i 0 := rfl
          have htk := take_snoc_ (expL xs) (k := i) (by rw [HEL.out]; exact hlt)
          have hac := accTo_range xs i
          have her := expL_range xs i
          have hex : expV (clampV (xs.getD i 0) - top) = (expL xs).getD i 0 := by rw [hat, HT.out (by omega)]
          have hX := hid_ (rexp_any wr (clampV (xs.getD i 0) - top))
          rw [hex] at hX
          have HST := hid_ hst
          have HTK := hid_ htk
          clear hat hst htk hkx hex
          generalize xs.getD i 0 = x at *
          generalize accTo (expL xs) i = acc at *
          generalize (expL xs).getD i 0 = r9 at *
          generalize (expL xs).take i = pre at *
          have hfin : ∀ (v' : Value) (w1 w5 : World), Below wr.heap.size wr w1 → w5.ownsRow w.heap.size 2 1 v' (i + 1) (pre.map (Value.int .i64) ++ [.int .i64 r9]) → (w1.alloc (.cells #[.int .i64 r9] 2)).grownBy w5 (Value.slice A2 i c2).ownBlock →
              ∃ A5 c5, v' = .slice A5 (i + 1) c5 ∧ w5.ownsRow w.heap.size 2 1 (.slice A5 (i + 1) c5) (i + 1) (((expL xs).take (i + 1)).map (Value.int .i64)) ∧ Upd (fun _ => False) w w5 := by
            intro v' w1 w5 hw1 h5 hg5
            obtain ⟨A5, c5, rfl⟩ := own_slice_ h5
            refine ⟨A5, c5, rfl, ?_, app_upd1 (own_below HO.out hw1) (HU.out.below hw1) (Nat.le_refl _) hg5⟩
            rw [HTK.out, List.map_append]
            exact h5
          have HF := hid_ hfin
          clear hfin
          go_wp2_with (first
            | ((go_at_call 53); (refine (rclamp_any _ _).mono ?_); (rintro e w1 ⟨rfl, rfl⟩))
            | ((go_at_call 85); (refine hX.out.mono ?_); (rintro e w1 ⟨rfl, hb⟩); (have HO1 := hid_ (own_below HO.out hb)); (have HD1 := hid_ hb); (have hsz : w.heap.size ≤ w1.heap.size := Nat.le_trans HU.out.size hb.size); (clear hb))
            | (at_builtin; refine wpList_append_own _ rfl (.tmp 38) (.tmp 40) 23 rfl w.heap.size 2 i0 (.int .i64 0) 1 8 Try.underlying23 hi0 hz0 hz1 hz2 rfl (by decide) _ i _ rfl (HO1.out.alloc _) ⟨w1.heap.size, 0, none⟩ 1 1 [.int .i64 r9] rfl rfl (one_new rfl) (one_cell rfl) ?c3 ?c4 ?c5 ?_))
          case c3 => unfold maxLen; omega
          case c4 => omega
          case c5 => simp; omega
          intro v' w5 h5 hg5 _
          obtain ⟨A5, c5, rfl, hO5, hU5⟩ := HF.out v' w1 w5 HD1.out h5 hg5
          have HO5 := hid_ hO5
          have HU5 := hid_ hU5
          clear h5 hg5 hO5 hU5 HF
          go_wp2_with fail
          go_roundg (k - (i + 1))
          case measure => omega
          case rel => exact ⟨i + 1, c5, A5, by omega, by omega, by go_num, by rw [HST.out], rfl, HO5, HU5⟩
        · obtain rfl : i = k := by omega
          clear hlt
          have hO := HO.out
          rw [List.take_of_length_le (by rw [HEL.out]; exact Nat.le_refl _)] at hO
          have HE := hid_ (show RdI wr wr.heap.size .i64 (.slice A2 i c2) (expL xs) from Rd.of_own hO)
          have hal := accTo_range xs i
          have HV2 := HV.out
          generalize accTo (expL xs) i = al at *
          have HV3 := hid_ HV2
          clear HV2 HV hO HO
          generalize expL xs = el at *
          obtain ⟨wo, rfl⟩ : ∃ wo : World, wo = wr := ⟨_, rfl⟩
          go_wp2_with fail
          go_loopg [9, 10] i (fun g ov iv wr => ∃ (j c3 : Nat) (A3 : Option Addr), j ≤ i ∧ i ≤ g + j ∧ iv = .int .i64 j ∧ ov = .slice A3 j c3 ∧ Hid (wr.ownsRow wo.heap.size 2 1 (.slice A3 j c3) j (((el.take j).map (fun e => divV e al)).map (Value.int .i64))) ∧ Hid (Upd (fun _ => False) wo wr))
          case atStart => exact ⟨0, 0, none, Nat.zero_le _, by omega, rfl, rfl, hid_ (World.ownsRow_nil _ _ _ _), hid_ (Upd.refl _ _)⟩
          case round =>
            obtain ⟨j, c3, A3, hjm, hgj, rfl, rfl, HOj, HUj⟩ := hrel
            by_cases hlt : j < i
            · have hlt' : (j : Int) < (i : Int) := by omega
              have hje : j < el.length := by rw [HEL.out]; exact hlt
              obtain ⟨b, o, rfl, c1⟩ := rdi_cell (rdi_below HE.out HUj.out.toB) hje
              have HTM := hid_ (take_map_succ (fun e => divV e al) el hje)
              clear hje
              generalize el.getD j 0 = x at *
              obtain ⟨r9, hr9⟩ : ∃ r9, divV x al = r9 := ⟨_, rfl⟩
              have hD := hid_ (rdiv_any wr x al)
              rw [hr9] at hD
              have HTM2 : Hid ((el.take (j + 1)).map (fun e => divV e al) = (el.take j).map (fun e => divV e al) ++ [r9]) := by show _ = _; rw [HTM.out, ← hr9]
              clear HTM hr9
              generalize (el.take j).map (fun e => divV e al) = pre at *
              have hfin : ∀ (v' : Value) (w5 : World), w5.ownsRow wo.heap.size 2 1 v' (j + 1) (pre.map (Value.int .i64) ++ [.int .i64 r9]) → (wr.alloc (.cells #[.int .i64 r9] 2)).grownBy w5 (Value.slice A3 j c3).ownBlock →
                  ∃ A5 c5, v' = .slice A5 (j + 1) c5 ∧ w5.ownsRow wo.heap.size 2 1 (.slice A5 (j + 1) c5) (j + 1) (((el.take (j + 1)).map (fun e => divV e al)).map (Value.int .i64)) ∧ Upd (fun _ => False) wo w5 := by
                intro v' w5 h5 hg5
                obtain ⟨A5, c5, rfl⟩ := own_slice_ h5
                refine ⟨A5, c5, rfl, ?_, app_upd1 HOj.out HUj.out (Nat.le_refl _) hg5⟩
                rw [HTM2.out, List.map_append]
                exact h5
              have HF := hid_ hfin
              have hszj := HUj.out.size
              clear hfin
              go_wp2_with (first
                | ((go_at_call 86); (refine hD.out.mono ?_); (rintro e w1 ⟨rfl, rfl⟩))
                | (at_builtin; refine wpList_append_own _ rfl (.tmp 51) (.tmp 58) 23 rfl wo.heap.size 2 i0 (.int .i64 0) 1 8 Try.underlying23 hi0 hz0 hz1 hz2 rfl (by decide) _ j _ rfl (HOj.out.alloc _) ⟨wr.heap.size, 0, none⟩ 1 1 [.int .i64 r9] rfl rfl (one_new rfl) (one_cell rfl) ?c3 ?c4 ?c5 ?_))
              case c3 => unfold maxLen; omega
              case c4 => omega
              case c5 => simp; omega
              intro v' w5 h5 hg5 _
              obtain ⟨A5, c5, rfl, hO5, hU5⟩ := HF.out v' w5 h5 hg5
              have HO5 := hid_ hO5
              have HU5 := hid_ hU5
              clear h5 hg5 hO5 hU5 HF
              go_wp2_with fail
              go_roundg (i - (j + 1))
              case measure => omega
              case rel => exact ⟨j + 1, c5, A5, by omega, by omega, by go_num, rfl, HO5, HU5⟩
            · obtain rfl : j = i := by omega
              have hO := HOj.out
              rw [List.take_of_length_le (by rw [HEL.out]; exact Nat.le_refl _), ← HV3.out] at hO
              have HO9 := hid_ hO
              have HSL := hid_ (softV_length xs)
              clear hO
              go_wp2_with fail
              go_ret
              have hl9 : (softV xs).length = j := by rw [HSL.out, HN.out]
              exact ⟨A3, c3, by rw [hl9]; rfl, by rw [hl9]; exact own_base HO9.out HU.out.size, (HU.out.trans HUj.out).toB⟩
end Go.Proofs.Ytlpeijaeiioimaa
