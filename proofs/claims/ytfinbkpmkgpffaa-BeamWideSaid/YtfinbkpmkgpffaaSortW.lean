/- The library's stable sort by a comparison, at ints: words about a row of ints in a block of its own; the exchange of two ranges, walked. Conditions: the row is the whole block; the ranges lie in it. -/
import Derived.Test.YtfinbkpmkgpffaaBase
import Derived.BigRegion
import Derived.Deep.LoopGhost
namespace Go.Proofs.Ytfinbkpmkgpffaa
open Go.RowKit

def rowc (d : List Int) : Array Value := (d.map (Value.int .i64)).toArray
theorem rowc_size (d : List Int) : (rowc d).size = d.length := by simp [rowc]
theorem rowc_cell {w : World} {b t : Nat} {d : List Int} (h : Blk w b t (rowc d)) {i : Nat} (hi : i < d.length) : w.cell? ⟨b, i, none⟩ = some (.int .i64 (d.getD i 0)) := by
  rw [h.cell, rowc]
  simp [List.getD_eq_getElem?_getD, List.getElem?_eq_getElem hi]
theorem rowc_set {w : World} {b t : Nat} {d : List Int} (h : Blk w b t (rowc d)) (i : Nat) (u : Int) : Blk (w.setCell ⟨b, i, none⟩ (.int .i64 u)) b t (rowc (d.set i u)) := by
  have := h.set_ i (.int .i64 u)
  have e : (rowc d).setIfInBounds i (.int .i64 u) = rowc (d.set i u) := by
    simp [rowc, List.map_set]
  rw [e] at this
  exact this
def swapAt (d : List Int) (i j : Nat) : List Int := (d.set i (d.getD j 0)).set j (d.getD i 0)
theorem swapAt_length (d : List Int) (i j : Nat) : (swapAt d i j).length = d.length := by simp [swapAt]
theorem rowc_swap {w : World} {b t : Nat} {d : List Int} (h : Blk w b t (rowc d)) (i j : Nat) : Blk ((w.setCell ⟨b, i, none⟩ (.int .i64 (d.getD j 0))).setCell ⟨b, j, none⟩ (.int .i64 (d.getD i 0))) b t (rowc (swapAt d i j)) := rowc_set (rowc_set h i _) j _
/-- Only the row may have changed. -/
def Only (b : Nat) (w w' : World) : Prop := Upd (fun k => k = b) w w'
namespace Only
variable {b : Nat} {a w w' : World}
theorem refl (b : Nat) (w : World) : Only b w w := Upd.refl _ _
theorem trans (h : Only b a w) (k : Only b w w') : Only b a w' := Upd.trans h k
theorem drewN (h : Only b a w) (n : Nat) : Only b a (w.drewN n) := Upd.drewN h n
theorem drew (h : Only b a w) : Only b a w.drew := Upd.drew h
theorem set (h : Only b a w) (i : Nat) (u : Value) : Only b a (w.setCell ⟨b, i, none⟩ u) := Upd.setCell h (.inl rfl) u
end Only
def RowPost (w : World) (b t : Nat) (d : List Int) (e : Ending) (w' : World) : Prop := e = .returned (.tuple #[]) ∧ Blk w' b t (rowc d) ∧ Only b w w'

/-- k places from a on and from b on are exchanged. -/
def swR (d : List Int) (a b : Nat) : Nat → List Int
  | 0 => d
  | k + 1 => swapAt (swR d a b k) (a + k) (b + k)
theorem swR_length (d : List Int) (a b : Nat) : ∀ k, (swR d a b k).length = d.length
  | 0 => rfl
  | k + 1 => by rw [swR, swapAt_length, swR_length d a b k]

theorem w64 {x : Int} (h0 : 0 ≤ x) (h : x < 4611686018427387904) : IntKind.i64.wrap x = x := by rw [IntKind.wrap_i64]; omega

set_option maxHeartbeats 1600000 in
theorem swapRange_any {w : World} {blk c a b n : Nat} {d : List Int} {fv : Value} (h : Blk w blk 3 (rowc d)) (hm : d.length < 1152921504606846976) (ha : a + n ≤ d.length) (hb : b + n ≤ d.length) :
    Calls Try.prog 93 #[.slice (some ⟨blk, 0, none⟩) d.length c, .int .i64 a, .int .i64 b, .int .i64 n, fv] w (RowPost w blk 3 (swR d a b n)) := by
  have H := hid_ h
  clear h
  go_enter Try.func93, Try.ntmps93
  go_wp2_with fail
  go_loopw [10] (fun i wr => ∃ k : Nat, k ≤ n ∧ i = .int .i64 k ∧ Blk wr blk 3 (rowc (swR d a b k)) ∧ Only blk w wr) (fun i _ => n - (intOf i).toNat)
  case atStart => exact ⟨0, Nat.zero_le _, rfl, H.out, Only.refl _ _⟩
  case round =>
    obtain ⟨k, hk, rfl, hB, hO⟩ := hrel
    have HB := hid_ hB
    have HO := hid_ hO
    clear hB hO
    by_cases hlt : k < n
    · have hlt' : (k : Int) < (n : Int) := by omega
      obtain ⟨p, hp⟩ : ∃ p : Nat, p = a + k := ⟨_, rfl⟩
      obtain ⟨q, hq⟩ : ∃ q : Nat, q = b + k := ⟨_, rfl⟩
      have p0 : (0 : Int) ≤ (a : Int) + k := by omega
      have q0 : (0 : Int) ≤ (b : Int) + k := by omega
      have p1 : (a : Int) + k < (d.length : Int) := by omega
      have q1 : (b : Int) + k < (d.length : Int) := by omega
      have p2 : ((a : Int) + k).toNat = p := by omega
      have q2 : ((b : Int) + k).toNat = q := by omega
      have p3 : IntKind.i64.wrap ((a : Int) + k) = (a : Int) + k := w64 p0 (by omega)
      have q3 : IntKind.i64.wrap ((b : Int) + k) = (b : Int) + k := w64 q0 (by omega)
      have c1 := rowc_cell HB.out (i := p) (by rw [swR_length]; omega)
      have c2 := rowc_cell HB.out (i := q) (by rw [swR_length]; omega)
      have f1 := HB.out.frozen p
      have f2 := HB.out.frozen q
      obtain ⟨u, hu⟩ : ∃ u, (swR d a b k).getD p 0 = u := ⟨_, rfl⟩
      obtain ⟨v, hv⟩ : ∃ v, (swR d a b k).getD q 0 = v := ⟨_, rfl⟩
      rw [hu] at c1
      rw [hv] at c2
      obtain ⟨y, c3⟩ : ∃ y, (wr.setCell ⟨blk, p, none⟩ (.int .i64 v)).cell? ⟨blk, q, none⟩ = some y := ⟨_, rowc_cell (rowc_set HB.out p v) (i := q) (by rw [List.length_set, swR_length]; omega)⟩
      have HU := hid_ hu
      have HV := hid_ hv
      have HP := hid_ hp
      have HQ := hid_ hq
      clear hu hv hp hq
      go_wp2_with fail
      go_region
      all_goals go_wp2_with fail
      go_roundw
      case rel => exact ⟨k + 1, by omega, by go_num, by
        have h5 := rowc_swap HB.out p q
        rw [HU.out, HV.out] at h5
        rw [swR, ← HP.out, ← HQ.out]
        exact h5, ((HO.out.set _ _).set _ _).drew⟩
      case measure => simp [intOf]; omega
    · go_wp2_with fail
      go_end0
      obtain rfl : k = n := by omega
      exact ⟨rfl, HB.out, HO.out⟩

/-- The rotation, as the library makes it. -/
def rot (m : Nat) : Nat → Nat → Nat → List Int → List Int
  | 0, i, _, d => swR d (m - i) m i
  | f + 1, i, j, d => if i = j then swR d (m - i) m i else if j < i then rot m f (i - j) j (swR d (m - i) m j) else rot m f i (j - i) (swR d (m - i) (m + j - i) i)
theorem rot_end (m f i : Nat) (d : List Int) : rot m f i i d = swR d (m - i) m i := by
  cases f <;> simp [rot]
theorem rot_length (m : Nat) : ∀ (f i j : Nat) (d : List Int), (rot m f i j d).length = d.length
  | 0, i, j, d => swR_length _ _ _ _
  | f + 1, i, j, d => by
    unfold rot
    split
    · exact swR_length _ _ _ _
    · split
      · rw [rot_length m f, swR_length]
      · rw [rot_length m f, swR_length]

set_option maxHeartbeats 1600000 in
theorem rotate_any {w : World} {blk c a m b : Nat} {d : List Int} {fv : Value} (h : Blk w blk 3 (rowc d)) (hm : d.length < 1152921504606846976) (ha : a < m) (hb : m < b) (hbl : b ≤ d.length) :
    Calls Try.prog 88 #[.slice (some ⟨blk, 0, none⟩) d.length c, .int .i64 a, .int .i64 m, .int .i64 b, fv] w (RowPost w blk 3 (rot m (b - a) (m - a) (b - m) d)) := by
  have H := hid_ h
  clear h
  obtain ⟨x, hx⟩ : ∃ x : Nat, x = m - a := ⟨_, rfl⟩
  obtain ⟨y, hy⟩ : ∃ y : Nat, y = b - m := ⟨_, rfl⟩
  have x1 : (m : Int) - a = x := by omega
  have y1 : (b : Int) - m = y := by omega
  have x2 : IntKind.i64.wrap ((m : Int) - a) = x := by rw [x1]; exact w64 (by omega) (by omega)
  have y2 : IntKind.i64.wrap ((b : Int) - m) = y := by rw [y1]; exact w64 (by omega) (by omega)
  rw [← hx, ← hy]
  have HX := hid_ hx
  have HY := hid_ hy
  clear hx hy
  go_enter Try.func88, Try.ntmps88
  go_wp2_with fail
  go_loopw [10, 11] (fun i j wr => ∃ (f ki kj : Nat) (dk : List Int), 0 < ki ∧ 0 < kj ∧ ki ≤ m ∧ m + kj ≤ d.length ∧ ki + kj ≤ f ∧ i = .int .i64 ki ∧ j = .int .i64 kj ∧ dk.length = d.length ∧ Blk wr blk 3 (rowc dk) ∧ Only blk w wr ∧ Hid (rot m f ki kj dk = rot m (b - a) x y d)) (fun i j _ => (intOf i).toNat + (intOf j).toNat)
  case atStart =>
    have := HX.out
    have := HY.out
    exact ⟨b - a, x, y, d, by omega, by omega, by omega, by omega, by omega, rfl, rfl, rfl, H.out, Only.refl _ _, rfl⟩
  case round =>
    obtain ⟨f, ki, kj, dk, i0, j0, im, jm, hf, rfl, rfl, hl, hB, hO, HR⟩ := hrel
    have HB := hid_ hB
    have HO := hid_ hO
    clear hB hO
    obtain ⟨p, hp⟩ : ∃ p : Nat, p = m - ki := ⟨_, rfl⟩
    have p1 : (m : Int) - ki = p := by omega
    have p2 : IntKind.i64.wrap ((m : Int) - ki) = p := by rw [p1]; exact w64 (by omega) (by omega)
    have HP := hid_ hp
    clear hp
    have HL := hid_ hl
    clear hl
    by_cases he : ki = kj
    · subst he
      have hS := hid_ (fun (w : World) (h : Blk w blk 3 (rowc dk)) => swapRange_any (c := c) (a := p) (b := m) (n := ki) (fv := fv) h (by rw [HL.out]; omega) (by have := HP.out; rw [HL.out]; omega) (by rw [HL.out]; omega))
      rw [HL.out] at hS
      go_wp2_with (go_at_call 93; refine (hS.out _ HB.out).mono ?_; rintro e w1 ⟨rfl, hB1, hO1⟩; (have HB1 := hid_ hB1); (have HO1 := hid_ hO1); clear hB1 hO1)
      go_end0
      have h5 := HR.out
      rw [rot_end, ← HP.out] at h5
      exact ⟨rfl, h5 ▸ HB1.out, HO.out.trans HO1.out⟩
    · have hne : ¬ (ki : Int) = (kj : Int) := by omega
      obtain ⟨f', rfl⟩ : ∃ f', f = f' + 1 := ⟨f - 1, by omega⟩
      have hR := HR.out
      rw [rot, if_neg he] at hR
      by_cases hlt : kj < ki
      · rw [if_pos hlt, ← HP.out] at hR
        have HR2 := hid_ hR
        clear hR
        have hlt' : (kj : Int) < (ki : Int) := by omega
        have hS := hid_ (fun (w : World) (h : Blk w blk 3 (rowc dk)) => swapRange_any (c := c) (a := p) (b := m) (n := kj) (fv := fv) h (by rw [HL.out]; omega) (by have := HP.out; rw [HL.out]; omega) (by rw [HL.out]; omega))
        rw [HL.out] at hS
        obtain ⟨z, hz⟩ : ∃ z : Nat, z = ki - kj := ⟨_, rfl⟩
        have z1 : (ki : Int) - kj = z := by omega
        have z2 : IntKind.i64.wrap ((ki : Int) - kj) = z := by rw [z1]; exact w64 (by omega) (by omega)
        rw [← hz] at HR2
        have HZ := hid_ hz
        clear hz
        go_wp2_with (go_at_call 93; refine (hS.out _ HB.out).mono ?_; rintro e w1 ⟨rfl, hB1, hO1⟩; (have HB1 := hid_ hB1); (have HO1 := hid_ hO1); clear hB1 hO1)
        go_roundw
        case rel =>
          have := HZ.out
          exact ⟨f', z, kj, _, by omega, by omega, by omega, by omega, by omega, by first | rfl | go_num, rfl, by rw [swR_length]; exact HL.out, HB1.out, HO.out.trans HO1.out, HR2⟩
        case measure =>
          have := HZ.out
          simp [intOf]; omega
      · rw [if_neg hlt, ← HP.out] at hR
        have HR2 := hid_ hR
        clear hR
        have hlt' : (ki : Int) < (kj : Int) := by omega
        obtain ⟨q, hq⟩ : ∃ q : Nat, q = m + kj - ki := ⟨_, rfl⟩
        have q1 : (m : Int) + kj - ki = q := by omega
        have q3 : IntKind.i64.wrap ((m : Int) + kj) = (m : Int) + kj := w64 (by omega) (by omega)
        have q2 : IntKind.i64.wrap ((m : Int) + kj - ki) = q := by rw [q1]; exact w64 (by omega) (by omega)
        have hS := hid_ (fun (w : World) (h : Blk w blk 3 (rowc dk)) => swapRange_any (c := c) (a := p) (b := q) (n := ki) (fv := fv) h (by rw [HL.out]; omega) (by have := HP.out; rw [HL.out]; omega) (by rw [HL.out]; omega))
        rw [HL.out] at hS
        obtain ⟨z, hz⟩ : ∃ z : Nat, z = kj - ki := ⟨_, rfl⟩
        have z1 : (kj : Int) - ki = z := by omega
        have z2 : IntKind.i64.wrap ((kj : Int) - ki) = z := by rw [z1]; exact w64 (by omega) (by omega)
        rw [← hz, ← hq] at HR2
        have HZ := hid_ hz
        have HQ := hid_ hq
        clear hz hq
        go_wp2_with (go_at_call 93; refine (hS.out _ HB.out).mono ?_; rintro e w1 ⟨rfl, hB1, hO1⟩; (have HB1 := hid_ hB1); (have HO1 := hid_ hO1); clear hB1 hO1)
        go_roundw
        case rel =>
          have := HZ.out
          exact ⟨f', ki, z, _, by omega, by omega, by omega, by omega, by omega, rfl, by first | rfl | go_num, by rw [swR_length]; exact HL.out, HB1.out, HO.out.trans HO1.out, HR2⟩
        case measure =>
          have := HZ.out
          simp [intOf]; omega
end Go.Proofs.Ytfinbkpmkgpffaa
