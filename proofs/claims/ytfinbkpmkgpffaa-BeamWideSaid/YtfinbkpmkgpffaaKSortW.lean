/- The library's stable sort by a comparison, at a beam's candidates: words about a row of them in a block of its own, told by a table and a list of places in it; the exchange of two ranges, walked. Conditions: the row is the whole block; the ranges lie in it. -/
import Derived.Test.YtfinbkpmkgpffaaSortWF
import Derived.BigRegion
import Derived.Deep.LoopGhost
import Derived.Deep.RegionHeld3
namespace Go.Proofs.Ytfinbkpmkgpffaa
open Go.RowKit

/-- candidates by their numbers -/
structure KT where
  a : Int → Option Addr
  n : Int → Nat
  c : Int → Nat
  s : Int → Int
  d : Int → Bool
  f : Int → Int
  /-- the cells behind the row -/
  tl : List Value
namespace KT
def t (k : KT) (x : Int) : Value := .slice (k.a x) (k.n x) (k.c x)
def cells (k : KT) (x : Int) : List Value := [k.t x, .int .i64 (k.s x), .bool (k.d x), .int .i64 (k.f x)]
def val (k : KT) (x : Int) : Value := .agg #[k.t x, .int .i64 (k.s x), .bool (k.d x), .int .i64 (k.f x)]
end KT
def rowk (k : KT) (d : List Int) : Array Value := (d.flatMap k.cells ++ k.tl).toArray
theorem rowk_get (k : KT) : ∀ (d : List Int) (i j : Nat), i < d.length → j < 4 → (d.flatMap k.cells)[i * 4 + j]? = (k.cells (d.getD i 0))[j]?
  | [], i, j, h, _ => absurd h (by simp)
  | x :: d, 0, j, _, hj => by
    rw [List.flatMap_cons, List.getElem?_append_left (by simp [KT.cells]; omega)]
    simp
  | x :: d, i + 1, j, h, hj => by
    rw [List.flatMap_cons, List.getElem?_append_right (by simp [KT.cells]; omega)]
    have e : (i + 1) * 4 + j - (k.cells x).length = i * 4 + j := by simp [KT.cells]; omega
    rw [e, rowk_get k d i j (by simpa using h) hj]
    simp
theorem flat_length (k : KT) : ∀ d : List Int, (d.flatMap k.cells).length = d.length * 4
  | [] => rfl
  | x :: d => by
    rw [List.flatMap_cons, List.length_append, flat_length k d]
    simp only [KT.cells, List.length_cons, List.length_nil]
    omega
theorem rowk_cell {w : World} {b t : Nat} {k : KT} {d : List Int} (h : Blk w b t (rowk k d)) {i : Nat} (hi : i < d.length) {j : Nat} (hj : j < 4) : w.cell? ⟨b, i * 4 + j, none⟩ = (k.cells (d.getD i 0))[j]? := by
  have hl : (d.flatMap k.cells).length = d.length * 4 := flat_length k d
  rw [h.cell, rowk, List.getElem?_toArray, List.getElem?_append_left (by omega), rowk_get k d i j hi hj]
theorem flat_set (k : KT) : ∀ (d : List Int) (i : Nat) (u : Int), i < d.length → ((((d.flatMap k.cells).set (i * 4) (k.t u)).set (i * 4 + 1) (.int .i64 (k.s u))).set (i * 4 + 2) (.bool (k.d u))).set (i * 4 + 3) (.int .i64 (k.f u)) = (d.set i u).flatMap k.cells
  | [], i, u, h => absurd h (by simp)
  | x :: d, 0, u, _ => by simp [KT.cells]
  | x :: d, i + 1, u, h => by
    have e := flat_set k d i u (by simpa using h)
    rw [List.set_cons_succ, List.flatMap_cons, List.flatMap_cons, ← e]
    have e4 : (i + 1) * 4 = i * 4 + 4 := by omega
    rw [e4]
    simp [KT.cells]
theorem rowk_set {w : World} {b t : Nat} {k : KT} {d : List Int} (h : Blk w b t (rowk k d)) {i : Nat} (hi : i < d.length) (u : Int) : Blk (w.setCells b (i * 4) (k.cells u)) b t (rowk k (d.set i u)) := by
  have h4 := (((h.set_ (i * 4) (k.t u)).set_ (i * 4 + 1) (.int .i64 (k.s u))).set_ (i * 4 + 2) (.bool (k.d u))).set_ (i * 4 + 3) (.int .i64 (k.f u))
  have e : ((((rowk k d).setIfInBounds (i * 4) (k.t u)).setIfInBounds (i * 4 + 1) (.int .i64 (k.s u))).setIfInBounds (i * 4 + 2) (.bool (k.d u))).setIfInBounds (i * 4 + 3) (.int .i64 (k.f u)) = rowk k (d.set i u) := by
    have hl : (d.flatMap k.cells).length = d.length * 4 := flat_length k d
    unfold rowk
    rw [← flat_set k d i u hi]
    simp only [List.setIfInBounds_toArray]
    rw [List.set_append_left _ _ (by omega), List.set_append_left _ _ (by rw [List.length_set]; omega), List.set_append_left _ _ (by rw [List.length_set, List.length_set]; omega), List.set_append_left _ _ (by rw [List.length_set, List.length_set, List.length_set]; omega)]
  rw [e] at h4
  exact h4
theorem Blk.has {w : World} {b t : Nat} {cs : Array Value} (h : Blk w b t cs) {i : Nat} (hi : i < cs.size) : ∃ y, w.cell? ⟨b, i, none⟩ = some y := ⟨_, (h.cell i).trans (Array.getElem?_eq_getElem hi)⟩
theorem rowk_size (k : KT) (d : List Int) : (rowk k d).size = d.length * 4 + k.tl.length := by
  unfold rowk
  rw [List.size_toArray, List.length_append, flat_length]
theorem rowk_swap {w : World} {b t : Nat} {k : KT} {d : List Int} (h : Blk w b t (rowk k d)) {i j : Nat} (hi : i < d.length) (hj : j < d.length) : Blk ((w.setCells b (i * 4) (k.cells (d.getD j 0))).setCells b (j * 4) (k.cells (d.getD i 0))) b t (rowk k (swapAt d i j)) :=
  rowk_set (rowk_set h hi _) (by rw [List.length_set]; exact hj) _
theorem Blk.drew_ {w : World} {b t : Nat} {cs : Array Value} (h : Blk w b t cs) : Blk w.drew b t cs := h
/-- the world behind the exchange, as the walk has it -/
def ex8 (w : World) (b p q : Nat) (ua va : Option Addr) (un uc vn vc : Nat) (us vs : Int) (ud vd : Bool) (uf vf : Int) : World :=
  ((((((((w.setCell ⟨b, p * 4, none⟩ (.slice va vn vc)).setCell ⟨b, p * 4 + 1, none⟩ (.int .i64 vs)).setCell ⟨b, p * 4 + 2, none⟩ (.bool vd)).setCell ⟨b, p * 4 + 3, none⟩ (.int .i64 vf)).setCell ⟨b, q * 4, none⟩ (.slice ua un uc)).setCell ⟨b, q * 4 + 1, none⟩ (.int .i64 us)).setCell ⟨b, q * 4 + 2, none⟩ (.bool ud)).setCell ⟨b, q * 4 + 3, none⟩ (.int .i64 uf)).drew
theorem rowk_ex8 {w : World} {b t : Nat} {k : KT} {d : List Int} (h : Blk w b t (rowk k d)) {p q : Nat} (hp : p < d.length) (hq : q < d.length) {u v : Int} (hu : d.getD p 0 = u) (hv : d.getD q 0 = v)
    {ua va : Option Addr} {un uc vn vc : Nat} {us vs : Int} {ud vd : Bool} {uf vf : Int} (cu : k.cells u = [.slice ua un uc, .int .i64 us, .bool ud, .int .i64 uf]) (cv : k.cells v = [.slice va vn vc, .int .i64 vs, .bool vd, .int .i64 vf]) :
    Blk (ex8 w b p q ua va un uc vn vc us vs ud vd uf vf) b t (rowk k (swapAt d p q)) ∧ Only b w (ex8 w b p q ua va un uc vn vc us vs ud vd uf vf) := by
  have h5 := rowk_swap h hp hq
  rw [hu, hv, cu, cv] at h5
  simp only [World.setCells, Nat.add_assoc, Nat.reduceAdd] at h5
  unfold ex8
  refine ⟨Blk.drew_ h5, ?_⟩
  exact (((((((((Only.refl b w).set _ _).set _ _).set _ _).set _ _).set _ _).set _ _).set _ _).set _ _).drew
theorem Only.sets {b : Nat} {a w : World} (h : Only b a w) (o : Nat) (us : List Value) : Only b a (w.setCells b o us) := Upd.setCells (S := fun k => k = b) (.inl rfl) us o h
/-- what a store of a candidate into the row meets, in whatever world of the first one's -/
theorem sets_has {w : World} {b t n : Nat} {cs : Array Value} (h : Blk w b t cs) (hn : cs.size = n) (p q : Nat) (hq : q * 4 + 3 < n) (x0 x1 x2 x3 y0 y1 y2 : Value) :
    (∃ y, ((((w.setCell ⟨b, p * 4, none⟩ x0).setCell ⟨b, p * 4 + 1, none⟩ x1).setCell ⟨b, p * 4 + 2, none⟩ x2).setCell ⟨b, p * 4 + 3, none⟩ x3).cell? ⟨b, q * 4, none⟩ = some y) ∧
    (∃ y, (((((w.setCell ⟨b, p * 4, none⟩ x0).setCell ⟨b, p * 4 + 1, none⟩ x1).setCell ⟨b, p * 4 + 2, none⟩ x2).setCell ⟨b, p * 4 + 3, none⟩ x3).setCell ⟨b, q * 4, none⟩ y0).cell? ⟨b, q * 4 + 1, none⟩ = some y) ∧
    (∃ y, ((((((w.setCell ⟨b, p * 4, none⟩ x0).setCell ⟨b, p * 4 + 1, none⟩ x1).setCell ⟨b, p * 4 + 2, none⟩ x2).setCell ⟨b, p * 4 + 3, none⟩ x3).setCell ⟨b, q * 4, none⟩ y0).setCell ⟨b, q * 4 + 1, none⟩ y1).cell? ⟨b, q * 4 + 2, none⟩ = some y) ∧
    (∃ y, (((((((w.setCell ⟨b, p * 4, none⟩ x0).setCell ⟨b, p * 4 + 1, none⟩ x1).setCell ⟨b, p * 4 + 2, none⟩ x2).setCell ⟨b, p * 4 + 3, none⟩ x3).setCell ⟨b, q * 4, none⟩ y0).setCell ⟨b, q * 4 + 1, none⟩ y1).setCell ⟨b, q * 4 + 2, none⟩ y2).cell? ⟨b, q * 4 + 3, none⟩ = some y) := by
  have h4 := (((h.set_ (p * 4) x0).set_ (p * 4 + 1) x1).set_ (p * 4 + 2) x2).set_ (p * 4 + 3) x3
  have h5 := h4.set_ (q * 4) y0
  have h6 := h5.set_ (q * 4 + 1) y1
  have h7 := h6.set_ (q * 4 + 2) y2
  exact ⟨h4.has (by simp; omega), h5.has (by simp; omega), h6.has (by simp; omega), h7.has (by simp; omega)⟩
def RowkPost (k : KT) (w : World) (b t : Nat) (d : List Int) (e : Ending) (w' : World) : Prop := e = .returned (.tuple #[]) ∧ Blk w' b t (rowk k d) ∧ Only b w w'

set_option maxHeartbeats 1600000 in
theorem kswapRange_any {w : World} {blk c a b n : Nat} {k : KT} {d : List Int} {fv : Value} (h : Blk w blk 73 (rowk k d)) (hm : d.length < 1152921504606846976) (ha : a + n ≤ d.length) (hb : b + n ≤ d.length) :
    Calls Try.prog 94 #[.slice (some ⟨blk, 0, none⟩) d.length c, .int .i64 a, .int .i64 b, .int .i64 n, fv] w (RowkPost k w blk 73 (swR d a b n)) := by
  have H := hid_ h
  clear h
  go_enter Try.func94, Try.ntmps94
  go_wp2_with fail
  go_loopw [10] (fun i wr => ∃ q : Nat, q ≤ n ∧ i = .int .i64 q ∧ Blk wr blk 73 (rowk k (swR d a b q)) ∧ Only blk w wr) (fun i _ => n - (intOf i).toNat)
  case atStart => exact ⟨0, Nat.zero_le _, rfl, H.out, Only.refl _ _⟩
  case round =>
    obtain ⟨r, hk, rfl, hB, hO⟩ := hrel
    have HB := hid_ hB
    have HO := hid_ hO
    clear hB hO
    by_cases hlt : r < n
    · have hlt' : (r : Int) < (n : Int) := by omega
      obtain ⟨p, hp⟩ : ∃ p : Nat, p = a + r := ⟨_, rfl⟩
      obtain ⟨q, hq⟩ : ∃ q : Nat, q = b + r := ⟨_, rfl⟩
      have p0 : (0 : Int) ≤ (a : Int) + r := by omega
      have q0 : (0 : Int) ≤ (b : Int) + r := by omega
      have p1 : (a : Int) + r < (d.length : Int) := by omega
      have q1 : (b : Int) + r < (d.length : Int) := by omega
      have p2 : ((a : Int) + r).toNat = p := by omega
      have q2 : ((b : Int) + r).toNat = q := by omega
      have p3 : IntKind.i64.wrap ((a : Int) + r) = (a : Int) + r := w64 p0 (by omega)
      have q3 : IntKind.i64.wrap ((b : Int) + r) = (b : Int) + r := w64 q0 (by omega)
      have hpl : p < (swR d a b r).length := by rw [swR_length]; omega
      have hql : q < (swR d a b r).length := by rw [swR_length]; omega
      have c10 := rowk_cell HB.out hpl (j := 0) (by omega)
      have c11 := rowk_cell HB.out hpl (j := 1) (by omega)
      have c12 := rowk_cell HB.out hpl (j := 2) (by omega)
      have c13 := rowk_cell HB.out hpl (j := 3) (by omega)
      have c20 := rowk_cell HB.out hql (j := 0) (by omega)
      have c21 := rowk_cell HB.out hql (j := 1) (by omega)
      have c22 := rowk_cell HB.out hql (j := 2) (by omega)
      have c23 := rowk_cell HB.out hql (j := 3) (by omega)
      simp only [KT.cells, List.getElem?_cons_zero, List.getElem?_cons_succ, Nat.add_zero] at c10 c11 c12 c13 c20 c21 c22 c23
      obtain ⟨u, hu⟩ : ∃ u, (swR d a b r).getD p 0 = u := ⟨_, rfl⟩
      obtain ⟨v, hv⟩ : ∃ v, (swR d a b r).getD q 0 = v := ⟨_, rfl⟩
      rw [hu] at c10 c11 c12 c13
      rw [hv] at c20 c21 c22 c23
      have HCu : Hid (k.cells u = [k.t u, .int .i64 (k.s u), .bool (k.d u), .int .i64 (k.f u)]) := hid_ rfl
      have HCv : Hid (k.cells v = [k.t v, .int .i64 (k.s v), .bool (k.d v), .int .i64 (k.f v)]) := hid_ rfl
      have f1 := fun o => HB.out.frozen o
      obtain ⟨⟨y0, z0⟩, ⟨y1, z1⟩, ⟨y2, z2⟩, ⟨y3, z3⟩⟩ := sets_has HB.out (rowk_size _ _) p q (by rw [swR_length]; omega) (k.t v) (.int .i64 (k.s v)) (.bool (k.d v)) (.int .i64 (k.f v)) (k.t u) (.int .i64 (k.s u)) (.bool (k.d u))
      have HU := hid_ hu
      have HV := hid_ hv
      have HP := hid_ hp
      have HQ := hid_ hq
      have HPL := hid_ hpl
      have HQL := hid_ hql
      clear hu hv hp hq hpl hql
      simp only [KT.t] at c10 c20 z0 z1 z2 z3 HCu HCv
      generalize k.a u = ua at *
      generalize k.a v = va at *
      generalize k.n u = un at *
      generalize k.n v = vn at *
      generalize k.c u = uc at *
      generalize k.c v = vc at *
      generalize k.s u = us at *
      generalize k.s v = vs at *
      generalize k.d u = ud at *
      generalize k.d v = vd at *
      generalize k.f u = uf at *
      generalize k.f v = vf at *
      go_wp2_with fail
      go_region
      all_goals go_wp2_with fail
      have hex := rowk_ex8 HB.out HPL.out HQL.out HU.out HV.out HCu.out HCv.out
      rw [show swapAt (swR d a b r) p q = swR d a b (r + 1) by rw [swR, ← HP.out, ← HQ.out]] at hex
      have hex1 := hex.1
      have hex2 := HO.out.trans hex.2
      unfold ex8 at hex1 hex2
      have HX1 := hid_ hex1
      have HX2 := hid_ hex2
      clear hex hex1 hex2
      go_roundw
      case rel => exact ⟨r + 1, by omega, by go_num, HX1.out, HX2.out⟩
      case measure => simp [intOf]; omega
    · go_wp2_with fail
      go_end0
      obtain rfl : r = n := by omega
      exact ⟨rfl, HB.out, HO.out⟩
end Go.Proofs.Ytfinbkpmkgpffaa
