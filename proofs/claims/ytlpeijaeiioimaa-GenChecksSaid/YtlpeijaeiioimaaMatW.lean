/- A matrix's products with a row walked, the program's and the document's. Conditions: the slices read as the lists; weights are of 8 bits; no more than 2^32 of them. -/
import Derived.Test.YtlpeijaeiioimaaVecW
namespace Go.Proofs.Ytlpeijaeiioimaa
open Go.RowKit

def rowOf (ws : List Int) (n i : Nat) : List Int := (ws.drop (i * n)).take n
def matL (ws xs : List Int) (m : Nat) : List Int := (List.range m).map (fun i => dotV (rowOf ws xs.length i) xs)
def MatOk (ws : List Int) (rows : Int) (xs : List Int) : Prop := 0 < xs.length ∧ 0 ≤ rows ∧ (ws.length : Int) = rows * xs.length
theorem matL_length (ws xs : List Int) (m : Nat) : (matL ws xs m).length = m := by simp [matL]
theorem matL_succ (ws xs : List Int) (m : Nat) : matL ws xs (m + 1) = matL ws xs m ++ [dotV (rowOf ws xs.length m) xs] := by simp [matL, List.range_succ]
theorem rowOf_length {ws : List Int} {n i m : Nat} (h : ws.length = m * n) (hi : i < m) : (rowOf ws n i).length = n := by
  have : (i + 1) * n ≤ m * n := Nat.mul_le_mul_right n hi
  rw [Nat.add_mul, Nat.one_mul] at this
  rw [rowOf, List.length_take, List.length_drop]
  omega
theorem Wt.sub {ws vs : List Int} (h : Wt ws) (hs : ∀ x ∈ vs, x ∈ ws) : Wt vs := fun x hx => h x (hs x hx)
theorem Wt.row {ws : List Int} (h : Wt ws) (n i : Nat) : Wt (rowOf ws n i) := h.sub (fun _ hx => List.mem_of_mem_drop (List.mem_of_mem_take hx))
theorem Wt.drop {ws : List Int} (h : Wt ws) (n : Nat) : Wt (ws.drop n) := h.sub (fun _ hx => List.mem_of_mem_drop hx)
/-- a new row of numbers, and no error -/
def RowOk (w : World) (l : List Int) (e : Ending) (w' : World) : Prop := ∃ A c, e = .returned (.tuple #[.slice A l.length c, .int .i64 0]) ∧ w'.ownsRow w.heap.size 2 1 (.slice A l.length c) l.length (l.map (Value.int .i64)) ∧ Below w.heap.size w w'
/-- no row, and an error -/
def RowNo (w : World) (x : Int) (e : Ending) (w' : World) : Prop := e = .returned (.tuple #[.slice none 0 0, .int .i64 x]) ∧ Below w.heap.size w w'
theorem Try.infoI64_ : (Try.prog.info? 2).map (fun i => (i.zero, i.size, i.bytes)) = some (some (.int .i64 0), 1, 8) := by kernel_rfl

theorem mat_nums {L n m : Nat} (hn : 0 < n) (hm : L = m * n) : (L : Int) % (n : Int) = 0 ∧ (L : Int) / (n : Int) = (m : Int) := by
  subst hm
  have h0 : (n : Int) ≠ 0 := by omega
  exact ⟨by rw [Int.natCast_mul]; exact Int.mul_emod_left _ _, by rw [Int.natCast_mul]; exact Int.mul_ediv_cancel _ h0⟩
set_option maxRecDepth 100000 in
set_option maxHeartbeats 1600000 in
theorem mat_ok {w : World} {B B' : Nat} {A A' : Option Addr} {L n c c' : Nat} {ws xs : List Int} (m : Nat) (hx : RdI w B .i8 (.slice A L c) ws) (hy : RdI w B' .i64 (.slice A' n c') xs) (hw : Wt ws) (hn : 0 < n) (hm : L = m * n) (hbig : L ≤ 4294967296) :
    Calls Try.prog 42 #[.slice A L c, .int .i64 (m : Int), .slice A' n c'] w (RowOk w (matL ws xs m)) := by
  obtain ⟨i0, hi0, hz0, hz1, hz2⟩ := info_parts Try.infoI64_
  obtain ⟨hL, hc, hmx⟩ := rdi_len hx
  obtain ⟨hnn, hc', hmy⟩ := rdi_len hy
  obtain ⟨hmod, hdiv⟩ := mat_nums hn hm
  have HX := hid_ hx
  have HY := hid_ hy
  have HW := hid_ hw
  have HM := hid_ hm
  have HL := hid_ hL
  have HN := hid_ hnn
  unfold maxLen at hmx hmy
  have hz : ((n : Int) == 0) = false := by rw [beq_eq_false_iff_ne]; omega
  have hmle : m ≤ L := by rw [hm]; exact Nat.le_mul_of_pos_right m hn
  clear hx hy hw hm hL hnn
  go_enter Try.func42, Try.ntmps42
  go_wp2_with fail
  go_loopg [0, 9] m (fun g wv ov wr => ∃ (i q c1 c2 : Nat) (A1 A2 : Option Addr), i ≤ m ∧ m ≤ g + i ∧ Hid (q = (m - i) * n) ∧ wv = .slice A1 q c1 ∧ ov = .slice A2 i c2 ∧ Hid (RdI w B .i8 (.slice A1 q c1) (ws.drop (i * n))) ∧ Hid (wr.ownsRow w.heap.size 2 1 (.slice A2 i c2) i ((matL ws xs i).map (Value.int .i64))) ∧ Hid (Upd (fun _ => False) w wr))
  case atStart => exact ⟨0, L, c, 0, A, none, Nat.zero_le _, by omega, hid_ (by rw [HM.out]; rfl), rfl, rfl, by rw [Nat.zero_mul]; exact HX, hid_ (World.ownsRow_nil _ _ _ _), hid_ (Upd.refl _ _)⟩
  case round =>
    obtain ⟨i, q, c1, c2, A1, A2, him, hg, HQ, rfl, rfl, HR, HO, HU⟩ := hrel
    obtain ⟨hh, hq1, hq2⟩ := rdi_len HR.out
    unfold maxLen at hq2
    by_cases hlt : i < m
    · have hqn : n ≤ q := by rw [HQ.out]; exact Nat.le_mul_of_pos_left n (by omega)
      have hq0 : 0 < q := by omega
      have hnc : n ≤ c1 := by omega
      have hd : Hid (∀ w1, (∃ z, w1 = wr.drewN z) → Calls Try.prog 69 #[.slice A1 n n, .slice A' n c'] w1 (DotPost w1 (dotV (rowOf ws n i) xs))) := fun w1 hw1 => by
        refine dot_any (rdi_take_ (rdi_drawn (rdi_below HR.out HU.out.toB) hw1) hqn (Nat.le_refl _)) (rdi_drawn (rdi_below HY.out HU.out.toB) hw1) (HW.out.row n i) ?_
        rw [HN.out]
        exact rowOf_length (by rw [HL.out, HM.out]) hlt
      obtain ⟨b, o, rfl, hcc⟩ := rdi_cell (j := 0) HR.out (by rw [hh]; exact hq0)
      clear hh hcc
      have HS := hid_ (matL_succ ws xs i)
      rw [HN.out] at HS
      obtain ⟨r, hr⟩ : ∃ r, dotV (rowOf ws n i) xs = r := ⟨_, rfl⟩
      rw [hr] at hd HS
      clear hr
      have hfin : ∀ (v' : Value) (w1 w5 : World), (∃ z, w1 = wr.drewN z) → w5.ownsRow w.heap.size 2 1 v' (i + 1) ((matL ws xs i).map (Value.int .i64) ++ [.int .i64 r]) → (w1.alloc (.cells #[.int .i64 r] 2)).grownBy w5 (Value.slice A2 i c2).ownBlock →
          ∃ A5 c5, v' = .slice A5 (i + 1) c5 ∧ w5.ownsRow w.heap.size 2 1 (.slice A5 (i + 1) c5) (i + 1) ((matL ws xs (i + 1)).map (Value.int .i64)) ∧ Upd (fun _ => False) w w5 := by
        intro v' w1 w5 hw1 h5 hg5
        obtain ⟨A5, c5, rfl⟩ := own_slice_ h5
        obtain ⟨z, rfl⟩ := hw1
        refine ⟨A5, c5, rfl, ?_, app_upd1 (own_drew HO.out z) (HU.out.drewN z) (Nat.le_refl _) hg5⟩
        rw [HS.out, List.map_append]
        exact h5
      have HF := hid_ hfin
      have HQ5 : Hid (q - n = (m - (i + 1)) * n) := by
        show _ = _
        rw [HQ.out, Nat.sub_add_eq, Nat.sub_mul _ 1, Nat.one_mul]
      have HR5 : Hid (∀ z, q - n ≤ z → RdI w B .i8 (.slice (some ⟨b, o + n, none⟩) (q - n) z) (ws.drop ((i + 1) * n))) := fun z hz => by
        have h9 := rdi_drop_ HR.out hqn hz
        rw [List.drop_drop, show i * n + n = (i + 1) * n by rw [Nat.add_mul, Nat.one_mul]] at h9
        exact h9
      clear hfin
      by_cases hcap : n < c1
      · go_wp2_with (first
          | ((go_at_call 69); (refine (hd.out _ ⟨0, rfl⟩).mono ?_); (rintro e w1 ⟨rfl, hw1⟩); (have HO1 := hid_ (show w1.ownsRow w.heap.size 2 1 (.slice A2 i c2) i ((matL ws xs i).map (Value.int .i64)) from by (obtain ⟨z, rfl⟩ := hw1); exact own_drew HO.out z)); (have HD1 := hid_ hw1); (have hsz : w.heap.size ≤ w1.heap.size := by (obtain ⟨z, rfl⟩ := hw1); exact HU.out.size); (clear hw1))
          | (at_builtin; refine wpList_append_own _ rfl (.tmp 50) (.tmp 52) 23 rfl w.heap.size 2 i0 (.int .i64 0) 1 8 Try.underlying23 hi0 hz0 hz1 hz2 rfl (by decide) _ i _ rfl (HO1.out.alloc _) ⟨w1.heap.size, 0, none⟩ 1 1 [.int .i64 r] rfl rfl (one_new rfl) (one_cell rfl) ?c3 ?c4 ?c5 ?_))
        case c3 => unfold maxLen; omega
        case c4 => omega
        case c5 => simp; omega
        intro v' w5 h5 hg5 _
        obtain ⟨A5, c5, rfl, hO5, hU5⟩ := HF.out v' w1 w5 HD1.out h5 hg5
        have HO5 := hid_ hO5
        have HU5 := hid_ hU5
        clear h5 hg5 hO5 hU5 HF
        go_wp2_with fail
        go_roundg (m - (i + 1))
        case measure => omega
        case rel => exact ⟨i + 1, q - n, c1 - n, c5, _, A5, by omega, by omega, HQ5, rfl, rfl, hid_ (HR5.out _ (by omega)), HO5, HU5⟩
      · obtain rfl : n = c1 := by omega
        have hz0' : q - n = 0 := by omega
        have HZ := hid_ hz0'
        clear hz0'
        go_wp2_with (first
          | ((go_at_call 69); (refine (hd.out _ ⟨0, rfl⟩).mono ?_); (rintro e w1 ⟨rfl, hw1⟩); (have HO1 := hid_ (show w1.ownsRow w.heap.size 2 1 (.slice A2 i c2) i ((matL ws xs i).map (Value.int .i64)) from by (obtain ⟨z, rfl⟩ := hw1); exact own_drew HO.out z)); (have HD1 := hid_ hw1); (have hsz : w.heap.size ≤ w1.heap.size := by (obtain ⟨z, rfl⟩ := hw1); exact HU.out.size); (clear hw1))
          | (at_builtin; refine wpList_append_own _ rfl (.tmp 50) (.tmp 52) 23 rfl w.heap.size 2 i0 (.int .i64 0) 1 8 Try.underlying23 hi0 hz0 hz1 hz2 rfl (by decide) _ i _ rfl (HO1.out.alloc _) ⟨w1.heap.size, 0, none⟩ 1 1 [.int .i64 r] rfl rfl (one_new rfl) (one_cell rfl) ?c3 ?c4 ?c5 ?_))
        case c3 => unfold maxLen; omega
        case c4 => omega
        case c5 => simp; omega
        intro v' w5 h5 hg5 _
        obtain ⟨A5, c5, rfl, hO5, hU5⟩ := HF.out v' w1 w5 HD1.out h5 hg5
        have HO5 := hid_ hO5
        have HU5 := hid_ hU5
        clear h5 hg5 hO5 hU5 HF
        go_wp2_with fail
        go_roundg (m - (i + 1))
        case measure => omega
        case rel =>
          have hz1 := HZ.out
          have h7 := HR5.out 0 (by omega)
          have h8 := (rdi_len h7).1
          rw [hz1] at h8
          have h9 := List.length_eq_zero_iff.1 h8
          exact ⟨i + 1, 0, 0, c5, some ⟨b, o, none⟩, A5, by omega, by omega, by rw [← hz1]; exact HQ5, rfl, rfl, by rw [h9]; exact hid_ (rdi_nil _ _ _ _ _), HO5, HU5⟩
    · have hi : i = m := by omega
      have hq : q = 0 := by rw [HQ.out, hi, Nat.sub_self, Nat.zero_mul]
      have HO2 := HO.out
      have HI := hid_ hi
      subst hq
      clear hi hh
      go_wp2_with fail
      go_ret2
      have hi := HI.out
      subst hi
      have hl := matL_length ws xs i
      exact ⟨A2, c2, by rw [hl]; rfl, by rw [hl]; exact HO.out, HU.out.toB⟩

theorem matNo_cases {L n : Nat} {rows : Int} (h : ¬ (0 < n ∧ 0 ≤ rows ∧ (L : Int) = rows * n)) : n = 0 ∨ (0 < n ∧ rows < 0) ∨ (0 < n ∧ 0 ≤ rows ∧ (L : Int) % (n : Int) ≠ 0) ∨ (0 < n ∧ 0 ≤ rows ∧ (L : Int) % (n : Int) = 0 ∧ ∃ d : Nat, d ≤ L ∧ (L : Int) / (n : Int) = (d : Int) ∧ (d : Int) ≠ rows) := by
  by_cases h0 : n = 0
  · exact .inl h0
  by_cases h1 : rows < 0
  · exact .inr (.inl ⟨by omega, h1⟩)
  by_cases h2 : (L : Int) % (n : Int) = 0
  · refine .inr (.inr (.inr ⟨by omega, by omega, h2, L / n, Nat.div_le_self _ _, (Int.natCast_ediv L n).symm, fun e => h ⟨by omega, by omega, ?_⟩⟩))
    have h3 := Int.mul_ediv_add_emod (L : Int) n
    rw [h2, Int.add_zero] at h3
    rw [← e, Int.natCast_ediv, Int.mul_comm]
    exact h3.symm
  · exact .inr (.inr (.inl ⟨by omega, by omega, h2⟩))
set_option maxHeartbeats 1600000 in
theorem mat_no {w : World} {B B' : Nat} {A A' : Option Addr} {L n c c' : Nat} {ws xs : List Int} {rows : Int} (hx : RdI w B .i8 (.slice A L c) ws) (hy : RdI w B' .i64 (.slice A' n c') xs) (hno : ¬ MatOk ws rows xs) (hbig : L ≤ 4294967296) :
    Calls Try.prog 42 #[.slice A L c, .int .i64 rows, .slice A' n c'] w (RowNo w 21) := by
  obtain ⟨hL, hc, hmx⟩ := rdi_len hx
  obtain ⟨hnn, hc', hmy⟩ := rdi_len hy
  unfold MatOk at hno
  rw [hL, hnn] at hno
  unfold maxLen at hmx hmy
  clear hx hy hL hnn
  rcases matNo_cases hno with rfl | ⟨h1, h2⟩ | ⟨h1, h2, h3⟩ | ⟨h1, h2, h3, d, h4, h5, h6⟩
  · clear hno
    go_enter Try.func42, Try.ntmps42
    go_wp2_with fail
    all_goals
      go_ret2
      exact ⟨rfl, Below.refl _ _⟩
  · have hz : ((n : Int) == 0) = false := by rw [beq_eq_false_iff_ne]; omega
    clear hno
    go_enter Try.func42, Try.ntmps42
    go_wp2_with fail
    go_ret2
    exact ⟨rfl, Below.refl _ _⟩
  · have hz : ((n : Int) == 0) = false := by rw [beq_eq_false_iff_ne]; omega
    have hb1 : ((L : Int) % (n : Int) == 0) = false := beq_eq_false_iff_ne.2 h3
    have hb2 : ((L : Int) % (n : Int) != 0) = true := by rw [bne_iff_ne]; exact h3
    clear hno
    go_enter Try.func42, Try.ntmps42
    go_wp2_with fail
    go_ret2
    exact ⟨rfl, Below.refl _ _⟩
  · have hz : ((n : Int) == 0) = false := by rw [beq_eq_false_iff_ne]; omega
    have hb1 : ((d : Int) == rows) = false := beq_eq_false_iff_ne.2 h6
    have hb2 : ((d : Int) != rows) = true := by rw [bne_iff_ne]; exact h6
    clear hno
    go_enter Try.func42, Try.ntmps42
    go_wp2_with fail
    go_ret2
    exact ⟨rfl, Below.refl _ _⟩
set_option maxHeartbeats 1600000 in
theorem rmat_no {w : World} {B B' : Nat} {A A' : Option Addr} {L n c c' : Nat} {ws xs : List Int} {rows : Int} (hx : RdI w B .i8 (.slice A L c) ws) (hy : RdI w B' .i64 (.slice A' n c') xs) (hno : ¬ MatOk ws rows xs) (hbig : L ≤ 4294967296) :
    Calls Try.prog 31 #[.slice A L c, .int .i64 rows, .slice A' n c'] w (RowNo w 21) := by
  obtain ⟨hL, hc, hmx⟩ := rdi_len hx
  obtain ⟨hnn, hc', hmy⟩ := rdi_len hy
  unfold MatOk at hno
  rw [hL, hnn] at hno
  unfold maxLen at hmx hmy
  clear hx hy hL hnn
  rcases matNo_cases hno with rfl | ⟨h1, h2⟩ | ⟨h1, h2, h3⟩ | ⟨h1, h2, h3, d, h4, h5, h6⟩
  · clear hno
    go_enter Try.func31, Try.ntmps31
    go_wp2_with fail
    all_goals
      go_ret2
      exact ⟨rfl, Below.refl _ _⟩
  · have hz : ((n : Int) == 0) = false := by rw [beq_eq_false_iff_ne]; omega
    clear hno
    go_enter Try.func31, Try.ntmps31
    go_wp2_with fail
    go_ret2
    exact ⟨rfl, Below.refl _ _⟩
  · have hz : ((n : Int) == 0) = false := by rw [beq_eq_false_iff_ne]; omega
    have hb1 : ((L : Int) % (n : Int) == 0) = false := beq_eq_false_iff_ne.2 h3
    have hb2 : ((L : Int) % (n : Int) != 0) = true := by rw [bne_iff_ne]; exact h3
    clear hno
    go_enter Try.func31, Try.ntmps31
    go_wp2_with fail
    go_ret2
    exact ⟨rfl, Below.refl _ _⟩
  · have hz : ((n : Int) == 0) = false := by rw [beq_eq_false_iff_ne]; omega
    have hb1 : ((d : Int) == rows) = false := beq_eq_false_iff_ne.2 h6
    have hb2 : ((d : Int) != rows) = true := by rw [bne_iff_ne]; exact h6
    clear hno
    go_enter Try.func31, Try.ntmps31
    go_wp2_with fail
    go_ret2
    exact ⟨rfl, Below.refl _ _⟩
set_option maxRecDepth 100000 in
set_option maxHeartbeats 1600000 in
theorem rmat_ok {w : World} {B B' : Nat} {A A' : Option Addr} {L n c c' : Nat} {ws xs : List Int} (m : Nat) (hx : RdI w B .i8 (.slice A L c) ws) (hy : RdI w B' .i64 (.slice A' n c') xs) (hw : Wt ws) (hn : 0 < n) (hm : L = m * n) (hbig : L ≤ 4294967296) :
    Calls Try.prog 31 #[.slice A L c, .int .i64 (m : Int), .slice A' n c'] w (RowOk w (matL ws xs m)) := by
  obtain ⟨i0, hi0, hz0, hz1, hz2⟩ := info_parts Try.infoI64_
  obtain ⟨hL, hc, hmx⟩ := rdi_len hx
  obtain ⟨hnn, hc', hmy⟩ := rdi_len hy
  obtain ⟨hmod, hdiv⟩ := mat_nums hn hm
  have HX := hid_ hx
  have HY := hid_ hy
  have HW := hid_ hw
  have HM := hid_ hm
  have HL := hid_ hL
  have HN := hid_ hnn
  unfold maxLen at hmx hmy
  have hz : ((n : Int) == 0) = false := by rw [beq_eq_false_iff_ne]; omega
  have hmle : m ≤ L := by rw [hm]; exact Nat.le_mul_of_pos_right m hn
  clear hx hy hw hm hL hnn
  go_enter Try.func31, Try.ntmps31
  go_wp2_with fail
  go_loopg [8, 9] m (fun g ov iv wr => ∃ (i c2 : Nat) (A2 : Option Addr), i ≤ m ∧ m ≤ g + i ∧ iv = .int .i64 i ∧ ov = .slice A2 i c2 ∧ Hid (wr.ownsRow w.heap.size 2 1 (.slice A2 i c2) i ((matL ws xs i).map (Value.int .i64))) ∧ Hid (Upd (fun _ => False) w wr))
  case atStart => exact ⟨0, 0, none, Nat.zero_le _, by omega, rfl, rfl, hid_ (World.ownsRow_nil _ _ _ _), hid_ (Upd.refl _ _)⟩
  case round =>
    obtain ⟨i, c2, A2, him, hg, rfl, rfl, HO, HU⟩ := hrel
    by_cases hlt : i < m
    · have hlt' : (i : Int) < (m : Int) := by omega
      obtain ⟨p, hp⟩ : ∃ p, i * n = p := ⟨_, rfl⟩
      have hpi : (i : Int) * (n : Int) = (p : Int) := by rw [← hp, Int.natCast_mul]
      have hpi2 : ((i : Int) + 1) * (n : Int) = (p : Int) + (n : Int) := by rw [Int.add_mul, hpi, Int.one_mul]
      have hpn : p + n ≤ L := by
        have : (i + 1) * n ≤ m * n := Nat.mul_le_mul_right n hlt
        rw [← HM.out, Nat.add_mul, Nat.one_mul, hp] at this
        exact this
      obtain ⟨b, o, rfl, hcc⟩ := rdi_cell (j := 0) HX.out (by rw [HL.out]; omega)
      have hpc : p + n ≤ c := by omega
      have hd : Hid (∀ w1, (∃ z, w1 = wr.drewN z) → Calls Try.prog 59 #[.slice (some ⟨b, o + p, none⟩) n (c - p), .slice A' n c'] w1 (DotPost w1 (dotV (rowOf ws n i) xs))) := fun w1 hw1 => by
        have h1 := rdi_take_ (p := n) (q := c - p) (rdi_drop_ (p := p) (q := c - p) (rdi_below HX.out HU.out.toB) (by omega) (by omega)) (by omega) (by omega)
        rw [← hp] at h1 ⊢
        refine rdot_any (rdi_drawn h1 hw1) (rdi_drawn (rdi_below HY.out HU.out.toB) hw1) (HW.out.row n i) ?_
        rw [HN.out]
        exact rowOf_length (by rw [HL.out, HM.out]) hlt
      clear hcc hp
      have HS := hid_ (matL_succ ws xs i)
      rw [HN.out] at HS
      obtain ⟨r, hr⟩ : ∃ r, dotV (rowOf ws n i) xs = r := ⟨_, rfl⟩
      rw [hr] at hd HS
      clear hr
      have hfin : ∀ (v' : Value) (w1 w5 : World), (∃ z, w1 = wr.drewN z) → w5.ownsRow w.heap.size 2 1 v' (i + 1) ((matL ws xs i).map (Value.int .i64) ++ [.int .i64 r]) → (w1.alloc (.cells #[.int .i64 r] 2)).grownBy w5 (Value.slice A2 i c2).ownBlock →
          ∃ A5 c5, v' = .slice A5 (i + 1) c5 ∧ w5.ownsRow w.heap.size 2 1 (.slice A5 (i + 1) c5) (i + 1) ((matL ws xs (i + 1)).map (Value.int .i64)) ∧ Upd (fun _ => False) w w5 := by
        intro v' w1 w5 hw1 h5 hg5
        obtain ⟨A5, c5, rfl⟩ := own_slice_ h5
        obtain ⟨z, rfl⟩ := hw1
        refine ⟨A5, c5, rfl, ?_, app_upd1 (own_drew HO.out z) (HU.out.drewN z) (Nat.le_refl _) hg5⟩
        rw [HS.out, List.map_append]
        exact h5
      have HF := hid_ hfin
      clear hfin
      go_wp2_with (first
        | ((go_at_call 59); (refine (hd.out _ ⟨0, rfl⟩).mono ?_); (rintro e w1 ⟨rfl, hw1⟩); (have HO1 := hid_ (show w1.ownsRow w.heap.size 2 1 (.slice A2 i c2) i ((matL ws xs i).map (Value.int .i64)) from by (obtain ⟨z, rfl⟩ := hw1); exact own_drew HO.out z)); (have HD1 := hid_ hw1); (have hsz : w.heap.size ≤ w1.heap.size := by (obtain ⟨z, rfl⟩ := hw1); exact HU.out.size); (clear hw1))
        | (at_builtin; refine wpList_append_own _ rfl (.tmp 57) (.tmp 59) 23 rfl w.heap.size 2 i0 (.int .i64 0) 1 8 Try.underlying23 hi0 hz0 hz1 hz2 rfl (by decide) _ i _ rfl (HO1.out.alloc _) ⟨w1.heap.size, 0, none⟩ 1 1 [.int .i64 r] rfl rfl (one_new rfl) (one_cell rfl) ?c3 ?c4 ?c5 ?_))
      case c3 => unfold maxLen; omega
      case c4 => omega
      case c5 => simp; omega
      intro v' w5 h5 hg5 _
      obtain ⟨A5, c5, rfl, hO5, hU5⟩ := HF.out v' w1 w5 HD1.out h5 hg5
      have HO5 := hid_ hO5
      have HU5 := hid_ hU5
      clear h5 hg5 hO5 hU5 HF
      go_wp2_with fail
      go_roundg (m - (i + 1))
      case measure => omega
      case rel => exact ⟨i + 1, c5, A5, by omega, by omega, by go_num, rfl, HO5, HU5⟩
    · have hi : i = m := by omega
      have HI := hid_ hi
      have hge : ¬ (i : Int) < (m : Int) := by omega
      clear hi
      go_wp2_with fail
      go_ret2
      have hi := HI.out
      subst hi
      have hl := matL_length ws xs i
      exact ⟨A2, c2, by rw [hl]; rfl, by rw [hl]; exact HO.out, HU.out.toB⟩
end Go.Proofs.Ytlpeijaeiioimaa
