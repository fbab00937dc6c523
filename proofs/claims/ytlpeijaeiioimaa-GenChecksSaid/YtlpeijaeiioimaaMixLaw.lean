/- What several networks make of a row together, plainly; rows of rows of weights. -/
import Derived.Test.YtlpeijaeiioimaaRouteWB
namespace Go.Proofs.Ytlpeijaeiioimaa
open Go.RowKit

/-- a slice of rows of weights reads as a list of lists -/
def RdR (w : World) (B : Nat) (v : Value) (L : List (List Int)) : Prop :=
  ∃ vs : List Value, Rd w B v vs ∧ vs.length = L.length ∧ ∀ i, i < L.length → ∃ B', RdI w B' .i8 (vs.getD i (.slice none 0 0)) (L.getD i [])
theorem rdr_below {w w' : World} {B : Nat} {v : Value} {L : List (List Int)} (h : RdR w B v L) (hb : Below w.heap.size w w') : RdR w' B v L := by
  obtain ⟨vs, h1, h2, h3⟩ := h
  exact ⟨vs, rd_below h1 hb, h2, fun i hi => (h3 i hi).imp fun _ h => rdi_below h hb⟩
theorem rdr_form {w : World} {B : Nat} {v : Value} {L : List (List Int)} (h : RdR w B v L) : ∃ A c, v = .slice A L.length c ∧ L.length ≤ c ∧ L.length ≤ maxLen := by
  obtain ⟨vs, h1, h2, _⟩ := h
  obtain ⟨A, c, h4, h5⟩ := h1.form
  exact ⟨A, c, by rw [h4, h2], by omega, by have := h1.le; omega⟩
theorem rdr_len {w : World} {B : Nat} {A : Option Addr} {n c : Nat} {L : List (List Int)} (h : RdR w B (.slice A n c) L) : L.length = n ∧ n ≤ c ∧ n ≤ maxLen := by
  obtain ⟨A', c', h1, h2, h3⟩ := rdr_form h
  injection h1 with _ e2 e3
  omega
theorem rdr_cell {w : World} {B : Nat} {A : Option Addr} {n c j : Nat} {L : List (List Int)} (h : RdR w B (.slice A n c) L) (hj : j < L.length) :
    ∃ b o A' m c' B', A = some ⟨b, o, none⟩ ∧ w.cell? ⟨b, o + j, none⟩ = some (.slice A' m c') ∧ RdI w B' .i8 (.slice A' m c') (L.getD j []) := by
  obtain ⟨vs, ⟨A0, c0, h1, h2, h3, h4⟩, h5, h6⟩ := h
  obtain ⟨b, o, rfl, _, _, h7⟩ := h4 (by omega)
  obtain ⟨B', h8⟩ := h6 j hj
  obtain ⟨A', c', h9, _⟩ := h8.form
  injection h1 with e1 _ _
  subst e1
  refine ⟨b, o, A', _, c', B', rfl, ?_, h9 ▸ h8⟩
  have hjv : j < vs.length := by omega
  rw [h7 j _ (List.getElem?_eq_getElem hjv)]
  rw [List.getD_eq_getElem?_getD, List.getElem?_eq_getElem hjv] at h9
  simpa using h9
theorem cell_lt {w : World} {p : Addr} {v : Value} (h : w.cell? p = some v) : p.block < w.heap.size := World.block_lt_of_cell? w p h
theorem cell_below {w w' : World} {p : Addr} {v : Value} (h : w.cell? p = some v) (hb : Below w.heap.size w w') : w'.cell? p = some v := ((Upd.of_below (S := fun _ => False) hb).cell (cell_lt h) (fun h => h)).trans h
theorem cell_upd {S : Nat → Prop} {w w' : World} {p : Addr} {v : Value} (h : w.cell? p = some v) (hu : Upd S w w') (hn : ¬ S p.block) : w'.cell? p = some v := (hu.cell (cell_lt h) hn).trans h
theorem rdi_fresh {w0 w w' : World} {B : Nat} {k : IntKind} {A : Option Addr} {n c : Nat} {l : List Int} (h : RdI w B k (.slice A n c) l) (hf : Fresh w0 (.slice A n c)) (hu : Upd (fun k => k < w0.heap.size) w w') : RdI w' B k (.slice A n c) l := by
  obtain ⟨A', c', hv, h1, h2, h3⟩ := h
  refine ⟨A', c', hv, h1, h2, fun h0 => ?_⟩
  obtain ⟨b, o, rfl, hB, hs, hc⟩ := h3 h0
  injection hv with e1 e2 e3
  have hb := hf b o n c (by rw [e1]) (by omega)
  refine ⟨b, o, rfl, hB, Nat.lt_of_lt_of_le hs hu.size, fun j u hj => ?_⟩
  exact (hu.cell (p := ⟨b, o + j, none⟩) hs (fun h => by have h' : b < w0.heap.size := h; omega)).trans (hc j u hj)
theorem rowRes_form {w w' : World} {r : Option (List Int)} {e : Ending} (h : RowRes w r e w') : ∃ A n c x, e = .returned (.tuple #[.slice A n c, .int .i64 x]) ∧ Below w.heap.size w w' ∧ RowRes w r (.returned (.tuple #[.slice A n c, .int .i64 x])) w' := by
  cases r with
  | none =>
    obtain ⟨rfl, hb⟩ := h
    exact ⟨none, 0, 0, 21, rfl, hb, rfl, hb⟩
  | some l =>
    obtain ⟨A, c, rfl, hO, hb⟩ := h
    exact ⟨A, l.length, c, 0, rfl, hb, A, c, rfl, hO, hb⟩
/-- a result carried over to the world that its caller leaves -/
theorem rowRes_move {w0 w w' w'' : World} {r : Option (List Int)} {e : Ending} (h : RowRes w r e w') (hs : w0.heap.size ≤ w.heap.size) (hu : Upd (fun k => k < w.heap.size) w' w'') (hb : Below w0.heap.size w0 w'') : RowRes w0 r e w'' := by
  cases r with
  | none => exact ⟨h.1, hb⟩
  | some l =>
    obtain ⟨A, c, he, hO, _⟩ := h
    exact ⟨A, c, he, own_base (own_upd hO hu (fun k h1 h2 _ => by omega)) hs, hb⟩

def wmul (p x : Int) : Int := IntKind.i64.wrap (p * x)
theorem wmul_i64 (p x : Int) : InI64 (wmul p x) := by
  unfold InI64 wmul
  rw [IntKind.wrap_i64]
  omega
def blend (a b : List Int) (j : Nat) : List Int := a.take j ++ b.drop j
theorem blend_length {a b : List Int} {j : Nat} (h : a.length = b.length) (hj : j ≤ a.length) : (blend a b j).length = b.length := by simp [blend]; omega
theorem blend_zero (a b : List Int) : blend a b 0 = b := by simp [blend]
theorem blend_all {a b : List Int} (h : a.length = b.length) : blend a b a.length = a := by simp only [blend, List.take_length]; rw [h, List.drop_length, List.append_nil]
theorem blend_at {a b : List Int} {j : Nat} (h : a.length = b.length) (hj : j < b.length) : (blend a b j).getD j 0 = b.getD j 0 := by
  rw [List.getD_eq_getElem?_getD, List.getD_eq_getElem?_getD, blend, List.getElem?_append_right (by simp; omega)]
  simp [List.getElem?_drop]
  rw [show j + (j - min j a.length) = j by omega]
theorem blend_set {a b : List Int} {j : Nat} (h : a.length = b.length) (hj : j < a.length) : (blend a b j).set j (a.getD j 0) = blend a b (j + 1) := by
  unfold blend
  rw [List.drop_eq_getElem_cons (show j < b.length by omega), List.set_append_right _ _ (by simp; omega)]
  rw [show j - (a.take j).length = 0 by simp; omega, List.set_cons_zero, List.take_succ_eq_append_getElem hj, List.append_assoc, List.getD_eq_getElem?_getD, List.getElem?_eq_getElem hj]
  rfl

def mixAdd (p : Int) (s y : List Int) : List Int := List.zipWith (fun a b => addV a (wmul p b)) s y
theorem mixAdd_length {p : Int} {s y : List Int} (h : s.length = y.length) : (mixAdd p s y).length = s.length := by simp [mixAdd]; omega
theorem mixAdd_at {p : Int} {s y : List Int} {j : Nat} (h : s.length = y.length) (hj : j < s.length) : (mixAdd p s y).getD j 0 = addV (s.getD j 0) (wmul p (y.getD j 0)) := by
  have hjy : j < y.length := by omega
  simp [mixAdd, List.getD_eq_getElem?_getD, List.getElem?_zipWith, List.getElem?_eq_getElem hj, List.getElem?_eq_getElem hjy]
def mixOne (U D : List (List Int)) (hidden : Int) (xs : List Int) (z : Int) : Option (List Int) := oneV (U.getD z.toNat []) (D.getD z.toNat []) hidden xs
theorem mixOne_length {U D : List (List Int)} {hidden : Int} {xs : List Int} {z : Int} {y : List Int} (h : mixOne U D hidden xs z = some y) : y.length = xs.length := by
  unfold mixOne oneV at h
  split at h
  · injection h with h
    rw [← h, matL_length]
  · cases h
def mixTo (U D : List (List Int)) (hidden : Int) (xs ch sh : List Int) : Nat → List Int
  | 0 => List.replicate xs.length 0
  | i + 1 => mixAdd (sh.getD i 0) (mixTo U D hidden xs ch sh i) ((mixOne U D hidden xs (ch.getD i 0)).getD [])
def mixAll (U D : List (List Int)) (hidden : Int) (xs ch : List Int) (q : Nat) : Prop := ∀ i, i < q → (mixOne U D hidden xs (ch.getD i 0)).isSome = true
instance (U D : List (List Int)) (hidden : Int) (xs ch : List Int) (q : Nat) : Decidable (mixAll U D hidden xs ch q) := by unfold mixAll; infer_instance
theorem mixTo_length {U D : List (List Int)} {hidden : Int} {xs ch sh : List Int} : ∀ i, mixAll U D hidden xs ch i → (mixTo U D hidden xs ch sh i).length = xs.length
  | 0, _ => by simp [mixTo]
  | i + 1, h => by
    have ih := mixTo_length (sh := sh) i (fun j hj => h j (by omega))
    obtain ⟨y, hy⟩ := Option.isSome_iff_exists.1 (h i (by omega))
    rw [mixTo, mixAdd_length, ih]
    rw [hy, Option.getD_some, ih, mixOne_length hy]
def Low (l : List Int) : Prop := ∀ i, InI64 (l.getD i 0)
theorem mixTo_low {U D : List (List Int)} {hidden : Int} {xs ch sh : List Int} : ∀ i, mixAll U D hidden xs ch i → Low (mixTo U D hidden xs ch sh i)
  | 0, _ => fun j => by
    simp only [mixTo, List.getD_eq_getElem?_getD, List.getElem?_replicate]
    split <;> simp [InI64]
  | i + 1, h => fun j => by
    have ih := mixTo_length (sh := sh) i (fun j hj => h j (by omega))
    obtain ⟨y, hy⟩ := Option.isSome_iff_exists.1 (h i (by omega))
    rw [mixTo, hy, Option.getD_some]
    by_cases hj : j < xs.length
    · rw [mixAdd_at (by rw [ih, mixOne_length hy]) (by rw [ih]; exact hj)]
      exact addV_range _ _
    · rw [List.getD_eq_getElem?_getD, List.getElem?_eq_none (by rw [mixAdd_length (by rw [ih, mixOne_length hy]), ih]; omega)]
      simp [InI64]
def finV (a : Int) : Int := clampV (shiftV a 16)
def mixE (router : List Int) (U D : List (List Int)) (hidden k : Int) (xs : List Int) : Int :=
  if U.length = 0 ∨ U.length ≠ D.length then 21
  else if U.length = 1 then (if (mixOne U D hidden xs 0).isSome then 0 else 21)
  else if routeE router xs U.length k ≠ 0 then routeE router xs U.length k
  else if mixAll U D hidden xs (routeC router xs U.length k) k.toNat then 0 else 21
def mixL (router : List Int) (U D : List (List Int)) (hidden k : Int) (xs : List Int) : List Int :=
  if U.length = 1 then (mixOne U D hidden xs 0).getD []
  else (mixTo U D hidden xs (routeC router xs U.length k) (routeP router xs U.length k) k.toNat).map finV
def mixV (router : List Int) (U D : List (List Int)) (hidden k : Int) (xs : List Int) : Option (List Int) := if mixE router U D hidden k xs = 0 then some (mixL router U D hidden k xs) else none
/-- the row, or the error -/
def MixPost (w : World) (e : Int) (l : List Int) (en : Ending) (w' : World) : Prop := if e = 0 then RowOk w l en w' else RowNo w e en w'
/-- conditions on rows of weights -/
def WtR (L : List (List Int)) : Prop := ∀ i, i < L.length → Wt (L.getD i []) ∧ (L.getD i []).length ≤ 4294967296
end Go.Proofs.Ytlpeijaeiioimaa
