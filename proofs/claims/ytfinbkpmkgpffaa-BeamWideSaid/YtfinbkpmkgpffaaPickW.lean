/- pick.Top walked: the places of a row of numbers, sorted by the library's stable sort, cut to so many. Conditions: the slice reads as the numbers, which are no more than 2^32. -/
import Derived.Test.YtfinbkpmkgpffaaSortLawC
import Derived.Laws.MakeOwn
namespace Go.Proofs.Ytfinbkpmkgpffaa
open Go.RowKit

def cmp3 (x y : Int) : Int := if x < y then -1 else if y < x then 1 else 0
/-- how the places a and b are compared -/
def cfx (xs : List Int) (a b : Int) : Int := cmp3 (xs.getD b.toNat 0) (xs.getD a.toNat 0)

set_option maxHeartbeats 800000 in
theorem isNaN_any (w : World) (x : Int) : Calls Try.prog 66 #[.int .i64 x] w (fun e w' => e = .returned (.bool false) ∧ w' = w) := by
  go_enter Try.func66, Try.ntmps66
  go_wp2_with fail
  go_ret
  exact ⟨rfl, rfl⟩
set_option maxHeartbeats 800000 in
theorem compare_any (w : World) (x y : Int) : Calls Try.prog 47 #[.int .i64 x, .int .i64 y] w (fun e w' => e = .returned (.int .i64 (cmp3 x y)) ∧ ∃ q, w' = w.drewN q) := by
  have N1 := hid_ (fun w x => isNaN_any w x)
  go_enter Try.func47, Try.ntmps47
  by_cases h : x < y
  · go_wp2_with (go_at_call 66; refine (N1.out _ _).mono ?_; rintro e w1 ⟨rfl, rfl⟩)
    go_ret
    exact ⟨by rw [cmp3, if_pos h]; rfl, 0, rfl⟩
  · by_cases h2 : y < x
    · go_wp2_with (go_at_call 66; refine (N1.out _ _).mono ?_; rintro e w1 ⟨rfl, rfl⟩)
      go_ret
      exact ⟨by rw [cmp3, if_neg (by omega), if_pos (by omega)]; rfl, 0, rfl⟩
    · go_wp2_with (go_at_call 66; refine (N1.out _ _).mono ?_; rintro e w1 ⟨rfl, rfl⟩)
      go_ret
      exact ⟨by rw [cmp3, if_neg (by omega), if_neg (by omega)]; rfl, 0, rfl⟩

set_option maxHeartbeats 800000 in
theorem top1_any {w : World} {B xb : Nat} {v : Value} {xs : List Int} (hx : RdI w B .i64 v xs) (hb : w.cell? ⟨xb, 0, none⟩ = some v) {a b : Int} (ha : 0 ≤ a ∧ a < xs.length) (hb' : 0 ≤ b ∧ b < xs.length) :
    Calls Try.prog 46 #[.int .i64 a, .int .i64 b, .pointer (some ⟨xb, 0, none⟩)] w (fun e w' => e = .returned (.int .i64 (cfx xs a b)) ∧ ∃ q, w' = w.drewN q) := by
  obtain ⟨A, c, rfl, hc, hm, hcx⟩ := hx.form
  obtain ⟨a0, a1⟩ := ha
  obtain ⟨b0, b1⟩ := hb'
  obtain ⟨j, o, rfl, h1, h2, c1⟩ := hcx a.toNat (by omega)
  obtain ⟨j', o', he, _, _, c2⟩ := hcx b.toNat (by omega)
  injection he with he
  injection he with he1 he2
  subst he1 he2
  clear hcx hx
  have hN := hid_ (fun (w : World) => compare_any w (xs.getD b.toNat 0) (xs.getD a.toNat 0))
  have hC : cfx xs a b = cmp3 (xs.getD b.toNat 0) (xs.getD a.toNat 0) := rfl
  obtain ⟨u, hu⟩ : ∃ u, xs.getD a.toNat 0 = u := ⟨_, rfl⟩
  obtain ⟨y, hy⟩ : ∃ y, xs.getD b.toNat 0 = y := ⟨_, rfl⟩
  rw [hu] at c1 hC hN
  rw [hy] at c2 hC hN
  have HC := hid_ hC
  have HU := hid_ hu
  have HY := hid_ hy
  clear hC hu hy
  go_enter Try.func46, Try.ntmps46
  go_wp2_with fail
  go_quiet ((go_at_call 47; exact Calls.quiet_of (hN.out _)))
  go_wp2_with fail
  go_ret
  exact ⟨by rw [HC.out]; rfl, _, rfl⟩

set_option maxHeartbeats 800000 in
theorem sortStable_any {w : World} {blk c xb : Nat} {d : List Int} {cf : Int → Int → Int} {dom : Int → Prop} (h00 : 0 < d.length → dom 0) (h : Blk w blk 3 (rowc d)) (hq : CmpQ xb cf dom blk w) (hd : ∀ x ∈ d, dom x) (hm : d.length < 1152921504606846976) :
    Calls Try.prog 45 #[.slice (some ⟨blk, 0, none⟩) d.length c, cmpv xb] w (RowPost w blk 3 (stab cf d)) := by
  have hS := hid_ (stable_any (c := c) h00 h hq hd hm)
  unfold cmpv at hS ⊢
  clear h hq hd h00
  go_enter Try.func45, Try.ntmps45
  go_wp2_with (go_at_call 65; refine hS.out.mono ?_; rintro e w1 ⟨rfl, hB1, hO1⟩; (have HB1 := hid_ hB1); (have HO1 := hid_ hO1); clear hB1 hO1)
  go_end0
  exact ⟨rfl, HB1.out, HO1.out⟩

theorem Try.infoInt : (Try.prog.info? 3).map (fun i => (i.zero, i.size, i.bytes)) = some (some (.int .i64 0), 1, 8) := by kernel_rfl
theorem make_ints (w : World) (n : Nat) (hn : n ≤ 4294967296) : (Instr.makeSlice 32 (.int .i64 (n : Int)) (.int .i64 (n : Int))).run Try.prog w = .ok (.slice (some ⟨w.heap.size, 0, none⟩) n n) (w.alloc (.cells (rowc (List.replicate n 0)) 3)) := by
  obtain ⟨i0, hi0, hz0, hz1, hz2⟩ := info_parts Try.infoInt
  have h := run_make (P := Try.prog) w 32 3 i0 _ Try.underlying32 hi0 hz0 .i64 .i64 (n : Int) (n : Int) (by omega) (by omega) (by rw [hz2]; omega) (by omega)
  have e : madeCells (Value.cells (.int .i64 0)) ((n : Int).toNat * i0.size) = rowc (List.replicate n 0) := by
    rw [hz1, Nat.mul_one, Int.toNat_natCast]
    apply Array.ext
    · simp [madeCells, rowc]
    · intro j h1 h2
      simp [madeCells, rowc, Value.cells, Nat.mod_one]
  rw [h, e, Int.toNat_natCast]

def iota (n : Nat) : List Int := (List.range n).map Int.ofNat
theorem iota_length (n : Nat) : (iota n).length = n := by simp [iota]
def fillR (n k : Nat) : List Int := iota k ++ List.replicate (n - k) 0
theorem fillR_step {n k : Nat} (h : k < n) : (fillR n k).set k (k : Int) = fillR n (k + 1) := by
  obtain ⟨q, hq⟩ : ∃ q, n - k = q + 1 := ⟨n - k - 1, by omega⟩
  have e : n - (k + 1) = q := by omega
  rw [fillR, fillR, hq, e, List.replicate_succ, set_mid _ _ _ _ (iota_length k).symm]
  simp [iota, List.range_succ]
theorem fillR_length {n k : Nat} (h : k ≤ n) : (fillR n k).length = n := by simp [fillR, iota_length]; omega
theorem fillR_all (n : Nat) : fillR n n = iota n := by simp [fillR]
theorem iota_dom (n : Nat) : ∀ x ∈ iota n, 0 ≤ x ∧ x < (n : Int) := by
  intro x hx
  simp only [iota, List.mem_map, List.mem_range] at hx
  obtain ⟨j, hj, rfl⟩ := hx
  exact ⟨Int.natCast_nonneg j, Int.ofNat_lt.2 hj⟩
/-- all places in their order -/
def order (xs : List Int) : List Int := stab (cfx xs) (iota xs.length)
def clamp (k : Int) (n : Nat) : Nat := (max (min k n) 0).toNat
theorem stab_length (cf : Int → Int → Int) (d : List Int) : (stab cf d).length = d.length := by
  have p1 : ∀ (n f a : Nat) (d : List Int), (pass1 cf n f a d).length = d.length := by
    intro n f
    induction f with
    | zero => intro a d; rfl
    | succ f ih => intro a d; rw [pass1]; split; rw [ih, ins_length]; exact ins_length _ _ _ _
  have p2 : ∀ (n z f a : Nat) (d : List Int), (pass2 cf n z f a d).length = d.length := by
    intro n z f
    induction f with
    | zero => intro a d; rfl
    | succ f ih =>
      intro a d
      rw [pass2]
      split
      · rw [ih, symM_length]
      · split
        · exact symM_length _ _ _ _ _ _
        · rfl
  have p3 : ∀ (n f z : Nat) (d : List Int), (outer cf n f z d).length = d.length := by
    intro n f
    induction f with
    | zero => intro z d; rfl
    | succ f ih => intro z d; rw [outer]; split; rw [ih, p2]; rfl
  rw [stab, p3, p1]
theorem order_length (xs : List Int) : (order xs).length = xs.length := by rw [order, stab_length, iota_length]

theorem Rd.low {w : World} {B : Nat} {v : Value} {xs : List Value} (h : Rd w B v xs) : Rd w w.heap.size v xs := by
  obtain ⟨A, c, hv, hc, hm, hx⟩ := h
  refine ⟨A, c, hv, hc, hm, fun hn => ?_⟩
  obtain ⟨b, o, ha, hb, hbs, hcell⟩ := hx hn
  exact ⟨b, o, ha, hbs, hbs, hcell⟩
theorem RdI.low {w : World} {B : Nat} {k : IntKind} {v : Value} {xs : List Int} (h : RdI w B k v xs) : RdI w w.heap.size k v xs := Rd.low h
theorem rowc_rd {w : World} {b : Nat} {t : TypeId} {d : List Int} (h : Blk w b t (rowc d)) {k c : Nat} (hk : k ≤ d.length) (hc : k ≤ c) (hm : k ≤ maxLen) : RdI w w.heap.size .i64 (.slice (some ⟨b, 0, none⟩) k c) (d.take k) := by
  have hl : ((d.take k).map (Value.int .i64)).length = k := by simp; omega
  refine ⟨some ⟨b, 0, none⟩, c, by rw [hl], by rw [hl]; exact hc, by rw [hl]; exact hm, fun _ => ⟨b, 0, rfl, h.lt, h.lt, fun j u hj => ?_⟩⟩
  rw [Nat.zero_add, h.cell, ← hj]
  have hj' : j < ((d.take k).map (Value.int .i64)).length := by
    rcases Nat.lt_or_ge j ((d.take k).map (Value.int .i64)).length with h1 | h1
    · exact h1
    · rw [List.getElem?_eq_none h1] at hj; cases hj
  rw [hl] at hj'
  simp [rowc, hj']
theorem cmpq_pays {w W : World} {B xb blk : Nat} {v : Value} {xs : List Int} (hx : RdI w B .i64 v xs) (hb : Blk W xb 29 #[v]) (hne : xb ≠ blk) (hu : Upd (fun k => k = blk) w W) (hblk : w.heap.size ≤ blk) : CmpQ xb (cfx xs) (fun i => 0 ≤ i ∧ i < (xs.length : Int)) blk W := by
  intro W2 hW2 x y h1 h2
  have h3 := hx.low.upd (hu.trans hW2) (fun k hk => by subst hk; exact hblk)
  refine top1_any h3 ?_ h1 h2
  exact (hb.upd hW2 hne).cell 0

/-- a slice that is not empty lies in a block that is new -/
def Fresh (w : World) (v : Value) : Prop := ∀ b o n c, v = .slice (some ⟨b, o, none⟩) n c → 0 < n → w.heap.size ≤ b
def TopPostF (w : World) (l : List Int) (e : Ending) (w' : World) : Prop := ∃ v, e = .returned v ∧ RdI w' w'.heap.size .i64 v l ∧ Below w.heap.size w w' ∧ Fresh w v
def TopPost (w : World) (l : List Int) (e : Ending) (w' : World) : Prop := ∃ v, e = .returned v ∧ RdI w' w'.heap.size .i64 v l ∧ Below w.heap.size w w'

set_option maxHeartbeats 1600000 in
theorem topF_any {w : World} {B : Nat} {v : Value} {xs : List Int} (hx : RdI w B .i64 v xs) (hn : xs.length ≤ 4294967296) (k : Int) :
    Calls Try.prog 23 #[v, .int .i64 k] w (TopPostF w ((order xs).take (clamp k xs.length))) := by
  obtain ⟨A, c, hv, hc, hm, hcx⟩ := hx.form
  have hz := Nat.le_refl w.heap.size
  obtain ⟨n, hnn⟩ : ∃ n, n = xs.length := ⟨_, rfl⟩
  rw [← hnn] at hv hn ⊢
  have HX := hid_ hx
  have HN := hid_ hnn
  have hmk := fun w => make_ints w n hn
  clear hx hcx hnn hc hm
  subst hv
  go_enter Try.func23, Try.ntmps23
  go_wp2_with fail
  go_loopw [12] (fun i wr => ∃ q : Nat, q ≤ n ∧ i = .int .i64 q ∧ Blk wr (w.heap.size + 1) 3 (rowc (fillR n q)) ∧ Only (w.heap.size + 1) ((w.alloc (.cells #[.slice A n c] 29)).alloc (.cells (rowc (List.replicate n 0)) 3)) wr) (fun i _ => n - (intOf i).toNat)
  case atStart =>
    refine ⟨0, Nat.zero_le _, rfl, ?_, Only.refl _ _⟩
    have h1 := Blk.new (w.alloc (.cells #[.slice A n c] 29)) 3 (rowc (fillR n 0))
    rw [World.size_alloc] at h1
    have e : fillR n 0 = List.replicate n 0 := by simp [fillR, iota]
    rw [e] at h1 ⊢
    exact h1
  case round =>
    obtain ⟨q, hq, rfl, hB, hO⟩ := hrel
    have HB := hid_ hB
    have HO := hid_ hO
    clear hB hO hmk
    by_cases hlt : q < n
    · have hlt' : (q : Int) < (n : Int) := by omega
      have c1 := rowc_cell HB.out (i := q) (by rw [fillR_length hq]; exact hlt)
      have f1 := HB.out.frozen q
      go_wp2_with fail
      go_roundw
      case rel => exact ⟨q + 1, by omega, by go_num, by rw [← fillR_step hlt]; exact rowc_set HB.out q _, HO.out.set _ _⟩
      case measure => simp [intOf]; omega
    · obtain rfl : q = n := by omega
      have hB := HB.out
      rw [fillR_all] at hB
      have hU : Upd (fun k => k = w.heap.size + 1) w wr := (((Upd.refl _ w).alloc _).alloc _).trans HO.out
      have hbx : Blk wr w.heap.size 29 #[.slice A q c] := ((Blk.new w _ _).alloc _).upd HO.out (by simp)
      have hS := sortStable_any (c := q) (d := iota q) (fun h => ⟨Int.le_refl 0, by rw [iota_length] at h; rw [← HN.out]; omega⟩) hB (cmpq_pays HX.out hbx (by simp) hU (by omega)) (by have := iota_dom q; rw [HN.out] at this ⊢; exact this) (by rw [iota_length]; omega)
      rw [iota_length] at hS
      unfold cmpv at hS
      have HS := hid_ hS
      have HU := hid_ hU
      clear hS hU hbx hB HB HO
      have hfin : ∀ (w1 : World) (z : Nat), Blk w1 (w.heap.size + 1) 3 (rowc (stab (cfx xs) (iota q))) → Only (w.heap.size + 1) wr w1 → z ≤ q → clamp k q = z → TopPostF w (List.take (clamp k q) (order xs)) (.returned (.slice (some ⟨w.heap.size + 1, 0, none⟩) z q)) w1 := by
        intro w1 z hB hO hz hc
        rw [hc, order, ← HN.out]
        exact ⟨_, rfl, rowc_rd hB (by rw [stab_length, iota_length]; exact hz) hz (by unfold maxLen; omega), (HU.out.trans hO).toBelow (Nat.le_refl _) (fun j hj => by subst hj; omega), fun b o n c h _ => by injection h with h _ _; injection h with h; injection h with h _ _; omega⟩
      have HFIN := hid_ hfin
      clear hfin
      by_cases hk0 : k < 0
      · have m1 : ¬ (q : Int) < k := by omega
        have hc : clamp k q = 0 := by unfold clamp; omega
        have HC := hid_ hc
        clear hc
        go_wp2_with (go_at_call 45; refine HS.out.mono ?_; rintro e w1 ⟨rfl, hB1, hO1⟩; (have HB1 := hid_ hB1); (have HO1 := hid_ hO1); clear hB1 hO1)
        go_ret
        exact HFIN.out _ 0 HB1.out HO1.out (Nat.zero_le _) HC.out
      · by_cases hkq : (q : Int) < k
        · have hc : clamp k q = q := by unfold clamp; omega
          have HC := hid_ hc
          clear hc
          go_wp2_with (go_at_call 45; refine HS.out.mono ?_; rintro e w1 ⟨rfl, hB1, hO1⟩; (have HB1 := hid_ hB1); (have HO1 := hid_ hO1); clear hB1 hO1)
          go_ret
          exact HFIN.out _ q HB1.out HO1.out (Nat.le_refl _) HC.out
        · obtain ⟨z, rfl⟩ : ∃ z : Nat, k = z := ⟨k.toNat, by omega⟩
          have hc : clamp (z : Int) q = z := by unfold clamp; omega
          have hzq : z ≤ q := by omega
          have HC := hid_ hc
          clear hc
          go_wp2_with (go_at_call 45; refine HS.out.mono ?_; rintro e w1 ⟨rfl, hB1, hO1⟩; (have HB1 := hid_ hB1); (have HO1 := hid_ hO1); clear hB1 hO1)
          go_ret
          exact HFIN.out _ z HB1.out HO1.out hzq HC.out
theorem top_any {w : World} {B : Nat} {v : Value} {xs : List Int} (hx : RdI w B .i64 v xs) (hn : xs.length ≤ 4294967296) (k : Int) :
    Calls Try.prog 23 #[v, .int .i64 k] w (TopPost w ((order xs).take (clamp k xs.length))) :=
  (topF_any hx hn k).mono (fun _ _ ⟨v, h1, h2, h3, _⟩ => ⟨v, h1, h2, h3⟩)
end Go.Proofs.Ytfinbkpmkgpffaa
